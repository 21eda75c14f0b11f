import Derived.Test.YtkbclhkcceennaaDoorAeOpsE
set_option linter.unusedSimpArgs false
set_option linter.unusedVariables false
namespace Go.AE
open Go Go.RowKit

variable {P : Program} {w0 : KW} {m : Map} {s s' : St} {w : World} {v : Value}

theorem eSliceArr_sound {t : TypeId} {x x' : Value} {lo hi mx lo' hi' mx' : Option Value} (h : eSliceArr P t x lo hi mx s = some (v, s')) (hR : Rel w0 m s w) (hx : VR m x x') (hlo : OVR m lo lo') (hhi : OVR m hi hi') (hmx : OVR m mx mx') :
    Out w0 m s' v ((Instr.sliceAt t x' lo' hi' mx').run P w) := by
  replace h := Option.bind_eq_some_iff.1 h; obtain ⟨a, ha, h⟩ := h
  replace h := Option.bind_eq_some_iff.1 h; obtain ⟨d, hd, h⟩ := h
  split at h
  · rename_i n e
    replace h := Option.bind_eq_some_iff.1 h; obtain ⟨sz, hsz, h⟩ := h
    replace h := Option.bind_eq_some_iff.1 h; obtain ⟨_, h4, h⟩ := h
    replace h := Option.bind_eq_some_iff.1 h; obtain ⟨mm, h1, h⟩ := h
    replace h := Option.bind_eq_some_iff.1 h; obtain ⟨hh, h2, h⟩ := h
    replace h := Option.bind_eq_some_iff.1 h; obtain ⟨l, h3, h⟩ := h
    replace h := Option.bind_eq_some_iff.1 h; obtain ⟨b, hb, h⟩ := h
    replace h := Option.bind_eq_some_iff.1 h; obtain ⟨_, hex, h⟩ := h
    simp only [Option.some.injEq, Prod.mk.injEq] at h
    obtain ⟨rfl, rfl⟩ := h
    have h4 := ck_some h4
    have hex := ck_some hex
    obtain ⟨ll, hl, hs, rfl⟩ := asPtr_VR ha hx
    obtain ⟨l2, hl2, hbr⟩ := hR.blk _ b hb
    rw [hl] at hl2; cases hl2
    have hlx : ll.exact = true := by rw [hbr.ex]; exact hex
    have em : (if mx.isNone then n else mm) = mm := by
      cases mx with
      | none => simp only [bnd, Option.some.injEq] at h1; simpa using h1
      | some y => rfl
    refine (Out.here (v' := .slice (some (if mm = l then ⟨ll.blk, ll.sh + a.off, none⟩ else (⟨ll.blk, ll.sh + a.off, none⟩ : Addr).add (l * sz))) (hh - l) (mm - l)) ?_ hR).cast ?_
    · by_cases e0 : mm = l
      · subst e0
        rw [if_pos rfl, show Nat.beq mm mm = true from by simp, cond_true]
        exact VR.slice a ll _ _ _ hl hs (fun _ => rfl) (Nat.le_refl _) (fun hx => by rw [hlx] at hx; cases hx)
      · rw [if_neg e0, show Nat.beq mm l = false from by rw [Bool.eq_false_iff]; intro hx; exact e0 (Nat.eq_of_beq_eq_true hx), cond_false, Addr_add]
        have := VR.slice (m := m) (a.add (l * sz)) ll (hh - l) (mm - l) (mm - l) (by rw [Addr_add' a hs]; exact hl) (by rw [Addr_add' a hs]) (fun _ => rfl) (Nat.le_refl _) (fun hx => by rw [hlx] at hx; cases hx)
        rw [Addr_add' a hs] at this ⊢
        first | exact this | simpa [Nat.add_assoc] using this
    · have := r_sliceBounds (P := P) (isSl := false) h1 h2 h3 h4 hlo hhi hmx (Nat.le_refl _) w
      simp only [Instr.sliceAt, Sem.run_bind, r_underlying hd, Result.andThen_ok, Instr.sureAddr, Sem.run_pure, this, em, r_size hsz]
  · cases h

theorem bytesOf_spec : ∀ (vs : List Value) (l : List UInt8), bytesOf vs = some l → ∃ ns : List Int, vs = ns.map (Value.int .u8) ∧ ∀ b : ByteArray, ns.foldl (fun r n => r.push (UInt8.ofNat n.toNat)) b = ⟨b.data ++ l.toArray⟩
  | [], l, h => by
    simp only [bytesOf, Option.some.injEq] at h; subst h
    exact ⟨[], rfl, fun b => by simp⟩
  | v :: r, l, h => by
    unfold bytesOf at h
    split at h
    · rename_i heq; cases heq
    · rename_i n r' heq
      cases heq
      replace h := Option.bind_eq_some_iff.1 h; obtain ⟨l', hl, h⟩ := h
      simp only [Option.some.injEq] at h; subst h
      obtain ⟨ns, h1, h2⟩ := bytesOf_spec _ l' hl
      refine ⟨n :: ns, by rw [h1]; rfl, fun b => ?_⟩
      simp only [List.foldl_cons]
      rw [h2]
      simp [ByteArray.push]
    · cases h

theorem VRs_ints {ns : List Int} {k : IntKind} {vs' : List Value} (h : VRs m (ns.map (Value.int k)) vs') : vs' = ns.map (Value.int k) := by
  induction ns generalizing vs' with
  | nil => exact List.length_eq_zero_iff.1 h.1.symm
  | cons n ns ih =>
    cases vs' with
    | nil => have := h.1; simp at this
    | cons v' vs' =>
      have := h.uncons
      rw [ih this.2]
      have h1 := this.1
      cases h1
      rfl

/-- A block is marked: nobody may say that it is not a string's. -/
theorem Rel.mark (hR : Rel w0 m s w) {id : Nat} {b : Blk} {l : Loc} (hb : s.h.get id = some b) (hl : m id = some l) (hro : b.ro = false) (a : Addr) (ha : a.block = l.blk) :
    ∃ w', (markStringish a).run P w = .ok () w' ∧ Rel w0 m { s with h := s.h.set id (some { b with strish := true }) } w' := by
  obtain ⟨l2, hl2, hbr⟩ := hR.blk _ b hb
  rw [hl] at hl2; cases hl2
  obtain ⟨cs, fr, t0, te, c1, c2, c3, c4, c5⟩ := hbr.obj
  have hlt := heap_lt c1
  have hB := hbr.lo hro
  have hsh : w.shape? a.block = some (t0, cs.size) := by simp [World.shape?, ha, c1]
  have hrun : (markStringish a).run P w = .ok () (w.freeze ⟨a.block, cs.size, none⟩ 1) := by
    simp [markStringish, shape, freeze, Sem.run, hsh]
  have hheap : ∀ j, (w.freeze ⟨a.block, cs.size, none⟩ 1).heap[j]? = if j = l.blk then some (.cells cs t0 (cs.size, cs.size + 1)) else w.heap[j]? := fun j => by
    simp only [World.freeze, Nat.one_ne_zero, if_false, ha, Array.getElem?_modify]
    by_cases e : l.blk = j
    · subst e
      rw [if_pos rfl, if_pos rfl, c1]
      rcases c5 hro with rfl | ⟨_, rfl⟩ <;> simp
    · rw [if_neg e, if_neg (fun h => e h.symm)]
  have hsz : w.heap.size ≤ (w.freeze ⟨a.block, cs.size, none⟩ 1).heap.size := by simp [World.freeze]
  refine ⟨_, hrun, ⟨hR.below.step (by simp [World.freeze]) (by simp [World.freeze]) (by simp [World.freeze]) hsz fun k hk => by rw [hheap, if_neg (fun e : k = l.blk => hB (e ▸ hk))], hR.res, fun i bi hi => ?_, fun i j bi bj li lj hi hj => ?_, fun i x hx => ?_, hR.minj⟩, hR.pos, hR.fresh⟩
  · simp only [PT.get_set] at hi
    by_cases e : i = id
    · subst e
      rw [if_pos rfl] at hi; cases hi
      exact ⟨l, hl, ⟨hbr.ex, hbr.es, ⟨cs, (cs.size, cs.size + 1), t0, te, by rw [hheap, if_pos rfl], c2, c3, c4, fun _ => .inr ⟨rfl, rfl⟩⟩, hbr.lo, hbr.hi⟩⟩
    · rw [if_neg e] at hi
      obtain ⟨li, k1, k2⟩ := hR.blk i bi hi
      exact ⟨li, k1, k2.world (by rw [hheap, if_neg (fun hx => e (hR.inj i id bi b li l hi hb k1 hl hx (.inr hro)))])⟩
  · have ex : ∀ {k : Nat} {bk : Blk}, (s.h.set id (some { b with strish := true })).get k = some bk → ∃ bk', s.h.get k = some bk' ∧ bk'.ro = bk.ro := fun {k bk} hk => by
      rw [PT.get_set] at hk
      by_cases e : k = id
      · rw [if_pos e] at hk; cases hk
        exact ⟨b, by rw [e]; exact hb, rfl⟩
      · rw [if_neg e] at hk; exact ⟨bk, hk, rfl⟩
    obtain ⟨bi', hi', ri⟩ := ex hi
    obtain ⟨bj', hj', rj⟩ := ex hj
    rw [← ri, ← rj]
    exact hR.inj i j bi' bj' li lj hi' hj'
  · obtain ⟨li, k1, k2, k3⟩ := hR.maps i x hx
    exact ⟨li, k1, by rw [hheap, if_neg (fun hx => by rw [hx, c1] at k2; cases k2)]; exact k2, k3⟩

theorem run_stringToBytes (e : TypeId) (b : ByteArray) (w : World) : ∃ nc, b.size ≤ nc ∧ (Conv.stringToBytes e b).run P w =
    .ok (.slice (some ⟨w.heap.size, 0, none⟩) b.size nc) (({ w with drawn := w.drawn + 1 } : World).alloc (.cells ((b.data.map fun c => .int .u8 c.toNat) ++ Array.replicate (nc - b.size) (.int .u8 0)) e (nc, nc + 1))) := by
  obtain ⟨nc, hnc, hch⟩ := run_choose_cap (P := P) b.size 0 e w
  refine ⟨nc, hnc, ?_⟩
  have hsz : ((b.data.map fun c => (Value.int .u8 c.toNat)) ++ Array.replicate (nc - b.size) (Value.int .u8 0)).size = nc := by
    have : b.data.size = b.size := rfl
    simp [this]; omega
  generalize hcs : ((b.data.map fun c => (Value.int .u8 c.toNat)) ++ Array.replicate (nc - b.size) (Value.int .u8 0)) = cs at hsz
  have hmk : ∀ w1 : World, (markStringish ⟨w1.heap.size, 0, none⟩).run P (w1.alloc (.cells cs e)) = .ok () (w1.alloc (.cells cs e (nc, nc + 1))) := fun w1 => by
    have h0 : (w1.heap.push (.cells cs e))[w1.heap.size]? = some (.cells cs e) := by simp
    have hsh : (w1.alloc (.cells cs e)).shape? w1.heap.size = some (e, nc) := by
      show (match (w1.heap.push (.cells cs e))[w1.heap.size]? with | some (.cells c elem _) => some (elem, c.size) | _ => none) = _
      rw [h0]; simp [hsz]
    have h1 : (markStringish ⟨w1.heap.size, 0, none⟩).run P (w1.alloc (.cells cs e)) = .ok () ((w1.alloc (.cells cs e)).freeze ⟨w1.heap.size, nc, none⟩ 1) := by
      simp [markStringish, shape, freeze, Sem.run, hsh]
    rw [h1]
    congr 1
    show ({ w1 with heap := _ } : World) = { w1 with heap := _ }
    congr 1
    show (w1.heap.push (.cells cs e)).modify w1.heap.size _ = w1.heap.push _
    apply Array.ext_getElem?
    intro i
    rw [Array.getElem?_modify, Array.getElem?_push, Array.getElem?_push]
    by_cases hi : i = w1.heap.size
    · subst hi; simp
    · rw [if_neg (fun h => hi h.symm), if_neg hi, if_neg hi]
  simp only [Conv.stringToBytes, Sem.run_bind, hch, Result.andThen_ok, hcs, r_newRow, Sem.run_pure]
  have := hmk { w with drawn := w.drawn + 1 }
  simp only at this
  rw [this]
  rfl

theorem eToString_sound {src dst : TypeId} {x x' : Value} (h : eToString P src dst x s = some (v, s')) (hR : Rel w0 m s w) (hx : VR m x x') : Out w0 m s' v ((convert src dst x').run P w) := by
  replace h := Option.bind_eq_some_iff.1 h; obtain ⟨ds, hds, h⟩ := h
  replace h := Option.bind_eq_some_iff.1 h; obtain ⟨dd, hdd, h⟩ := h
  split at h
  · rename_i e a len cap
    replace h := Option.bind_eq_some_iff.1 h; obtain ⟨de, hde, h⟩ := h
    split at h
    · replace h := Option.bind_eq_some_iff.1 h; obtain ⟨vs, hvs, h⟩ := h
      replace h := Option.bind_eq_some_iff.1 h; obtain ⟨l, hl, h⟩ := h
      simp only [Option.some.injEq, Prod.mk.injEq] at h
      obtain ⟨rfl, rfl⟩ := h
      obtain ⟨ns, rfl, hns⟩ := bytesOf_spec vs l hl
      have fin : ∀ (a' : Addr) (c' : Nat), (loadCells a' len).run P w = .ok (ns.map (Value.int .u8)).toArray w → (convert src dst (.slice (some a') len c')).run P w = .ok (.string ⟨l.toArray⟩) w := fun a' c' hl => by
        have := run_bytesToString (P := P) w a' len c' ns hl
        rw [hns] at this
        simp only [convert, Sem.run_bind, r_underlying hds, r_underlying hdd, Result.andThen_ok, r_underlying hde, this]
        simp
      cases hx with
      | slice a ll n c c' hll hs he hcc hn =>
        obtain ⟨vs', k1, k2, k3, k4⟩ := hR.run_loads P hll hvs
        have := VRs_ints k1
        subst this
        exact (Out.here (.string _) hR).cast (fin _ _ k4)
      | sliceE a a' ll hll hex hs hb =>
        have : ns = [] := by have := loads_len hvs; simpa using this
        subst this
        exact (Out.here (.string _) hR).cast (fin a' 0 rfl)
    · cases h
  · rename_i e len cap
    replace h := Option.bind_eq_some_iff.1 h; obtain ⟨de, hde, h⟩ := h
    split at h
    · simp only [Option.some.injEq, Prod.mk.injEq] at h
      obtain ⟨rfl, rfl⟩ := h
      cases hx
      refine (Out.here (.string _) hR).cast ?_
      simp only [convert, Sem.run_bind, r_underlying hds, r_underlying hdd, Result.andThen_ok, r_underlying hde, Conv.bytesToString, Sem.run_pure]
    · cases h
  · rename_i e b
    replace h := Option.bind_eq_some_iff.1 h; obtain ⟨de, hde, h⟩ := h
    split at h
    · replace h := Option.bind_eq_some_iff.1 h; obtain ⟨p, hp, h⟩ := h
      simp only [Option.some.injEq, Prod.mk.injEq] at h
      obtain ⟨rfl, rfl⟩ := h
      cases hx
      obtain ⟨nc, hnc, hrun⟩ := run_stringToBytes (P := P) e b w
      have hcsz : ((b.data.map fun c => (Value.int .u8 c.toNat)) ++ Array.replicate (nc - b.size) (Value.int .u8 0)).size = nc := by
        have : b.data.size = b.size := rfl
        simp [this]; omega
      obtain ⟨m', hle, hloc, hR'⟩ := Rel.alloc hR.drew (b := grownBlk e 1 true (ofBytes b)) (id := p.1) (s' := p.2) hp _ (nc, nc + 1) (by rw [hcsz]; simpa [grownBlk, ofBytes_len] using hnc) rfl (fun i u hu => by
        have hu := grownBlk_cell _ _ _ _ i hu
        have hi : i < b.data.size := by
          rcases Nat.lt_or_ge i (ofBytes b).length with h' | h'
          · rw [ofBytes_len] at h'; exact h'
          · rw [List.getElem?_eq_none h'] at hu; cases hu
        refine ⟨u, ?_, ?_, all_get (ofBytes_one b) hu⟩
        · rw [Array.getElem?_append_left (by simpa using hi)]
          simpa [ofBytes] using hu
        · exact (ofBytes_VR m b).2 i u u hu hu) (.inr ⟨rfl, by rw [hcsz]⟩)
      refine ⟨m', _, .slice (some ⟨w.heap.size, 0, none⟩) b.size nc, ?_, hle, ?_, hR'⟩
      · simp only [convert, Sem.run_bind, r_underlying hds, r_underlying hdd, Result.andThen_ok, r_underlying hde, hrun]
        rfl
      · have := VR.slice (m := m') ⟨p.1, 0, none⟩ _ b.size b.size nc hloc rfl (fun hx => by cases hx) hnc (fun _ => by simp only [hcsz, grownBlk]; omega)
        simpa using this
    · cases h
  · rename_i e' e a n c
    replace h := Option.bind_eq_some_iff.1 h; obtain ⟨de, hde, h⟩ := h
    split at h
    · replace h := Option.bind_eq_some_iff.1 h; obtain ⟨_, hsd, h⟩ := h
      replace h := Option.bind_eq_some_iff.1 h; obtain ⟨b, hb, h⟩ := h
      replace h := Option.bind_eq_some_iff.1 h; obtain ⟨_, hro, h⟩ := h
      simp only [Option.some.injEq, Prod.mk.injEq] at h
      obtain ⟨rfl, rfl⟩ := h
      have hsd := Nat.eq_of_beq_eq_true (ck_some hsd)
      subst hsd
      have hro : b.ro = false := by have := ck_some hro; simpa using this
      rw [hds] at hdd; cases hdd
      have fin : ∀ (a' : Addr) (n' c' : Nat) (l : Loc), m a.block = some l → a'.block = l.blk → VR m (.slice (some a) n c) (.slice (some a') n' c') → Out w0 m { s with h := s.h.set a.block (some { b with strish := true }) } (.slice (some a) n c) ((convert src src (.slice (some a') n' c')).run P w) := fun a' n' c' l hl ha hv => by
        obtain ⟨w', k1, k2⟩ := hR.mark (P := P) hb hl hro a' ha
        refine ⟨m, w', _, ?_, Map.le_refl m, hv, k2⟩
        simp only [convert, Sem.run_bind, r_underlying hds, Result.andThen_ok, r_underlying hde, beq_self_eq_true, k1, Sem.run_pure]
      have hx0 := hx
      cases hx with
      | slice a ll n c c' hll hs he hcc hn => exact fin _ _ _ ll hll rfl hx0
      | sliceE a a' ll hll hex hs hbb => exact fin _ _ _ ll hll hbb.1 hx0
    · cases h
  · cases h

end Go.AE
