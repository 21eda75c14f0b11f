import Derived.Test.YtkbclhkcceennaaDoorAeOpsC
set_option linter.unusedSimpArgs false
set_option linter.unusedVariables false
namespace Go.AE
open Go Go.RowKit

variable {P : Program} {w0 : KW} {m : Map} {s s' : St} {w : World} {v : Value}

theorem loads_len {a : Addr} {n : Nat} {vs : List Value} (h : s.loads a n = some vs) : vs.length = n := by
  replace h := Option.bind_eq_some_iff.1 h; obtain ⟨b, hb, h⟩ := h
  have aux : ∀ (n i : Nat) (vs : List Value), b.cells i n = some vs → vs.length = n := by
    intro n
    induction n with
    | zero => intro i vs h; simp only [Blk.cells, Option.some.injEq] at h; subst h; rfl
    | succ n ih =>
      intro i vs h
      simp only [Blk.cells] at h
      replace h := Option.bind_eq_some_iff.1 h; obtain ⟨x, hx, h⟩ := h
      replace h := Option.bind_eq_some_iff.1 h; obtain ⟨r, hr, h⟩ := h
      simp only [Option.some.injEq] at h; subst h
      simp [ih _ _ hr]
  exact aux _ _ _ h

theorem run_choose_cap (need old : Nat) (e : TypeId) (w : World) : ∃ nc, need ≤ nc ∧ (choose (.appendCap need old e)).run P w = .ok nc { w with drawn := w.drawn + 1 } :=
  ⟨need + (w.tape w.drawn (.appendCap need old e)) % (2 ^ 63 - need), by omega, rfl⟩

theorem run_askRoom (n : Nat) (w : World) : (askRoom n).run P w = .ok () w := by
  unfold askRoom
  split
  · rfl
  · rfl

theorem ofBytes_VR (m : Map) (b : ByteArray) : VRs m (ofBytes b) (ofBytes b) := VRs.map _ (fun _ _ => .int _ _)
theorem ofBytes_one (b : ByteArray) : (ofBytes b).all oneCell = true := by
  unfold ofBytes; rw [List.all_map]; exact List.all_eq_true.2 (fun _ _ => rfl)
theorem ofBytes_len (b : ByteArray) : (ofBytes b).length = b.size := by simp [ofBytes]

theorem loadCells_heap {a : Addr} {cs : List Value} (h : ∀ (j : Nat) v, cs[j]? = some v → w.cell? (a.add j) = some v) (w2 : World) (hw : w2.heap = w.heap) : (loadCells a cs.length).run P w2 = .ok cs.toArray w2 :=
  run_loadCells_list w2 a cs (fun j v hj => by have := h j v hj; unfold World.cell? at this ⊢; rw [hw]; exact this)

/-- What append adds. -/
theorem appNew_sound {sz n : Nat} {y y' : Value} {vs : List Value} (h : appNew sz y s = some (n, vs)) (hR : Rel w0 m s w) (hy : VR m y y') :
    (∀ w2, (Builtin.lenOf y').run P w2 = .ok n w2) ∧ ∃ vs', VRs m vs vs' ∧ vs.all oneCell = true ∧ vs.length = n * sz ∧ ∀ w2 : World, w2.heap = w.heap → (Builtin.firstCells sz n y').run P w2 = .ok vs'.toArray w2 := by
  unfold appNew at h
  split at h
  · rename_i a n' c
    replace h := Option.bind_eq_some_iff.1 h; obtain ⟨u, hu, h⟩ := h
    simp only [Option.some.injEq, Prod.mk.injEq] at h
    obtain ⟨rfl, rfl⟩ := h
    have hlen := loads_len hu
    cases hy with
    | slice a l n c c' hl hs he hcc hn =>
      obtain ⟨h0, vs', k1, k2, k3⟩ := hR.loads hl hu
      refine ⟨fun w2 => rfl, vs', k1, k2, hlen, fun w2 hw => ?_⟩
      have := loadCells_heap (P := P) k3 w2 hw
      rw [← k1.1, hlen] at this
      simpa [Builtin.firstCells] using this
    | sliceE a a' l hl he hs hb =>
      have : u = [] := List.length_eq_zero_iff.1 (by omega)
      subst this
      exact ⟨fun w2 => rfl, [], VRs.nil m, rfl, by simp, fun w2 hw => by simp [Builtin.firstCells, loadCells, loadCellsFrom]⟩
  · rename_i n' c
    replace h := Option.bind_eq_some_iff.1 h; obtain ⟨_, hc, h⟩ := h
    simp only [Option.some.injEq, Prod.mk.injEq] at h
    obtain ⟨rfl, rfl⟩ := h
    have := Nat.eq_of_beq_eq_true (ck_some hc)
    subst this
    cases hy
    exact ⟨fun w2 => rfl, [], VRs.nil m, rfl, by simp, fun w2 hw => rfl⟩
  · rename_i b
    replace h := Option.bind_eq_some_iff.1 h; obtain ⟨_, hc, h⟩ := h
    simp only [Option.some.injEq, Prod.mk.injEq] at h
    obtain ⟨rfl, rfl⟩ := h
    have := Nat.eq_of_beq_eq_true (ck_some hc)
    subst this
    cases hy
    refine ⟨fun w2 => rfl, ofBytes b, ofBytes_VR m b, ofBytes_one b, by simp [ofBytes_len], fun w2 hw => ?_⟩
    have e : b.extract 0 b.size = b := by simp
    simp only [Builtin.firstCells, e, Sem.run_pure, ofBytes]
    congr 1
    rw [← List.map_toArray]
  · cases h

/-- What comes of append where a new row is made. -/
theorem run_grow {ty yt rt e : TypeId} {inf : TypeInfo} {z : Value} {dy : TypeDesc} (hd : P.underlying ty = some (.slice e)) (hinf : P.info? e = some inf) (hz : zeroT P e = some z) (hdy : P.underlying yt = some dy) (hni : notInt dy = true)
    (hzs : z.cells.size = inf.size) (hb0 : inf.bytes ≠ 0) {base : Option Addr} {len cap n : Nat} {y' : Value} (hlen : ∀ w2, (Builtin.lenOf y').run P w2 = .ok n w2) (hbig : (len + n) * inf.bytes ≤ 1099511627776) (hgt : cap < len + n)
    {old' vs' : List Value} (hold : ∀ w2 : World, w2.heap = w.heap → (Builtin.firstCells inf.size len (.slice base len cap)).run P w2 = .ok old'.toArray w2) (hnew : ∀ w2 : World, w2.heap = w.heap → (Builtin.firstCells inf.size n y').run P w2 = .ok vs'.toArray w2)
    (hol : old'.length = len * inf.size) (hvl : vs'.length = n * inf.size) :
    ∃ nc cs, (Builtin.append_ #[ty, yt] rt #[.slice base len cap, y']).run P w = .ok (.slice (some ⟨w.heap.size, 0, none⟩) (len + n) nc) (({ w with drawn := w.drawn + 1 } : World).alloc (.cells cs e)) ∧ len + n ≤ nc ∧ cs.size = nc * inf.size ∧
      ∀ i, i < (old' ++ vs').length → cs[i]? = (old' ++ vs')[i]? := by
  obtain ⟨nc, hnc, hch⟩ := run_choose_cap (P := P) (len + n) cap e w
  have hszT : sizeT P e = some inf.size := by simp [sizeT, hinf]
  refine ⟨nc, old'.toArray ++ vs'.toArray ++ Builtin.zeroCells z.cells (nc - (len + n)), ?_, hnc, ?_, fun i hi => ?_⟩
  · have hne : ¬ (len + n ≤ cap) := by omega
    have hfit : ¬ (Builtin.nextslicecap (len + n) cap * inf.bytes > 2 ^ 48) := by
      have := growslice_fits (bytes := inf.bytes) hgt (by omega)
      simp only [gt_iff_lt, Nat.not_lt]; omega
    have hmax : ¬ (((len + n : Nat) : Int) > IntKind.i64.max ∧ (False ∨ inf.bytes = 0)) := by rintro ⟨_, h | h⟩; exact h; exact hb0 h
    have h1 := hold { w with drawn := w.drawn + 1 } rfl
    have h2 := hnew { w with drawn := w.drawn + 1 } rfl
    cases dy with
    | int k => simp [notInt] at hni
    | _ =>
      simp only [Builtin.append_, List.getElem?_toArray, List.getElem?_cons_zero, List.getElem?_cons_succ, Sem.run_bind, r_underlying hd, Result.andThen_ok, r_size hszT, r_underlying hdy, Sem.run_pure, Bool.false_eq_true, if_false, hlen, hne, r_info hinf, hmax, hfit, hch, run_askRoom,
        h1, h2, r_zero hz, r_newRow, Bool.not_false, if_true]
  · simp only [Array.size_append, List.size_toArray, hol, hvl, Builtin.zeroCells, Array.size_map, Array.size_range, hzs]
    rw [← Nat.add_mul, ← Nat.add_mul]; congr 1; omega
  · rw [Array.getElem?_append_left (by simpa using hi)]
    simp

end Go.AE
