import Derived.Test.YtgopjbnmbaeelaaGreatDoorAePan
import Derived.Test.YtgopjbnmbaeelaaGreatDoorAeExt
set_option linter.unusedVariables false
set_option linter.unusedSimpArgs false
/-! A function that defers a closure that recovers. -/
namespace Go.AE.F
open Go Go.AE Go.RowKit
noncomputable section
variable {P : Program}

/-- The pieces of the closure's text. -/
structure CloP where
  id : Nat
  nt : Nat
  d7 : Tmp
  d4 : Tmp
  o7 : Oper
  o4 : Oper
  rest : Code
def cloK (P : Program) (cn : CF) (lf : Nat) (c : CloP) (rv : Value) (cs : List Value) (s : St) (K : St → A) : A :=
  iteB (Nat.ble cs.length c.nt) (setCellsK cs .leaf 0 fun t => putK (some c.d7) c.nt rv t fun t1 => putK (some c.d4) c.nt rv t1 fun t2 =>
    (compCode P cn (drawK P cn c.nt) lf c.nt c.rest).go t2 s fun x _ s' => Ex.rec (motive := fun _ => A) (K s') (fun _ => none) (K s') x) none

structure CloOk (P : Program) (g : FuncId) (c : CloP) : Prop where
  body : ∃ fn, P.funcs[g]? = some fn ∧ fn.body = some (.seq (.region c.id #[c.o7, c.o4] false) c.rest) ∧ fn.results = #[] ∧ fn.ntmps = c.nt ∧ (fn.name == "runtime.NumGoroutine") = false
  o7 : c.o7.op = .call { callee := .builtin .recover, args := #[], argTypes := #[] } ∧ c.o7.dst = some c.d7 ∧ c.o7.guard = none
  o4 : c.o4.op = .assign (.tmp c.d7) ∧ c.o4.dst = some c.d4 ∧ c.o4.guard = none

theorem getD_put (T : Array Value) {d : Nat} (v : Value) (h : d < T.size) : (T.setIfInBounds d v).getD d undef = v := by simp [Array.getD, h]
theorem clo_sound {cf : CF} (hcf : FSound P cf) (hm : P.follows .mixedOrders = true) {g : FuncId} {c : CloP} (hc : CloOk P g c) {lf : Nat} {rv : Value} {cs : List Value} {s : St} {K : St → A} {ans : Value × St}
    (h : cloK P (cfN cf) lf c rv cs s K = some ans) {w0 : KW} {m : Map} {w : World} (hR : Rel w0 m s w) (hG : Glob m) {cs' : Array Value} (hv : VRs m cs cs'.toList) {u u' : FrameMode}
    (hu : (u = .panicking (chainOf rv) ∧ u' = .panicking [{ v := rv, recovered := true }] ∧ plain 8 rv = true) ∨ (u = .returning ∧ rv = .nilIface ∧ u' = .returning)) :
    CallsD P g cs' u w fun e u2 w' => ∃ v s' m', e = .returned v ∧ u2 = u' ∧ m.le m' ∧ Rel w0 m' s' w' ∧ K s' = some ans := by
  obtain ⟨fn, hf, hb, hres, hnt, hname⟩ := hc.body
  unfold cloK at h
  rw [iteB_eq] at h
  split at h
  · rename_i hle
    have hle := Nat.le_of_ble_eq_true hle
    rw [setCellsK_eq] at h
    obtain ⟨f1, e1, e2, e3, h⟩ := putK_some' s s h
    obtain ⟨t1, nt1, s1⟩ := f1
    simp only at e2 e3 h; subst e2; subst e3
    obtain ⟨f2, g1, g2, g3, h⟩ := putK_some' s1 s1 h
    obtain ⟨t2, nt2, s2⟩ := f2
    simp only at g2 g3 h; subst g2; subst g3
    have hnat := cfN_nat cf
    rw [compCode_eq hnat (drawE_nt _) lf c.nt (drawK_ok hnat c.nt)] at h
    obtain ⟨⟨x, f3⟩, h1, h2⟩ := Option.bind_eq_some_iff.1 h
    have hlen : cs.length = cs'.size := by simpa using hv.1
    have hrv : ∀ m' : Map, VR m' rv rv := fun m' => by
      rcases hu with ⟨_, _, hp⟩ | ⟨_, rfl, _⟩
      · exact plain_VR m' 8 rv hp
      · exact .nilIface
    refine callsD_of_wpS hf hb fun c₀ ks hmode => ?_
    have hF : FRel [] w0 m ⟨setCells .leaf 0 cs, c.nt, s2⟩ { tmps := cs' ++ Array.replicate (fn.ntmps - cs'.size) undef, defers := [] } w :=
      ⟨hR, hG, args_tmps hv _, by simp; omega, rfl⟩
    have hF1 := hF.put (f' := ⟨t1, c.nt, s2⟩) e1 (Map.le_refl m) (hrv m) hR
    have hF2 := hF1.put (f' := ⟨t2, c.nt, s2⟩) g1 (Map.le_refl m) (hrv m) hR
    refine wpS_seq (wpS_region ?_)
    show wpOpsS P #[c.o7, c.o4] _ [0, 1] _ _ _
    have w7 : ∀ y, Region.wanted c.o7 y = true := fun y => by unfold Region.wanted; rw [hc.o7.2.2]
    have w4 : ∀ y, Region.wanted c.o4 y = true := fun y => by unfold Region.wanted; rw [hc.o4.2.2]
    have r7 : ∀ ρ : Operand → Value, (execOp ρ c.o7).run P w = .ok .recover w := fun ρ => by
      simp only [execOp, hc.o7.1]; rfl
    have fin : ∀ ks', ks' = { c₀ with mode := u' } :: ks → wpOpsS P #[c.o7, c.o4] (Exit.thenS (c.rest.wpS P (bodyPostS P fn c₀ ks fun e u2 w' => ∃ v s' m', e = .returned v ∧ u2 = u' ∧ m.le m' ∧ Rel w0 m' s' w' ∧ K s' = some ans)) (bodyPostS P fn c₀ ks fun e u2 w' => ∃ v s' m', e = .returned v ∧ u2 = u' ∧ m.le m' ∧ Rel w0 m' s' w' ∧ K s' = some ans)) [1]
        (({ tmps := cs' ++ Array.replicate (fn.ntmps - cs'.size) undef, defers := [] } : Act).put c.o7.dst rv) ks' w := by
      intro ks' hks
      subst hks
      have hev : ∀ a : Act, a.eval (.tmp c.d7) = a.tmps.getD c.d7 undef := fun a => rfl
      have hval : (({ tmps := cs' ++ Array.replicate (fn.ntmps - cs'.size) undef, defers := [] } : Act).put c.o7.dst rv).eval (.tmp c.d7) = rv := by
        rw [hev, hc.o7.2.1]
        have hd : c.d7 < (cs' ++ Array.replicate (fn.ntmps - cs'.size) undef).size := by
          rw [hF.size]
          exact (putT_some e1).2.2.1 c.d7 rfl
        simp only [Act.put]
        exact getD_put _ rv hd
      have r4 : (execOp (({ tmps := cs' ++ Array.replicate (fn.ntmps - cs'.size) undef, defers := [] } : Act).put c.o7.dst rv).eval c.o4).run P w = .ok (.value rv) w := by
        simp only [execOp, hc.o4.1, hval]; rfl
      rw [wpOpsS]
      simp only [List.getElem?_toArray, List.getElem?_cons_succ, List.getElem?_cons_zero, w4, if_true, r4]
      show c.rest.wpS P (bodyPostS P fn c₀ ks fun e u2 w' => ∃ v s' m', e = .returned v ∧ u2 = u' ∧ m.le m' ∧ Rel w0 m' s' w' ∧ K s' = some ans) _ _ _
      rw [hc.o7.2.1, hc.o4.2.1]
      refine wpS_of_wp (evalCode_sound (cfN_ok hcf) (drawE_ok hm _ (cfN_ok hcf)) lf c.rest _ _ f3 x m _ w h1 hF2 fun m' a' w' k1 k2 => ?_)
      have h2 : Ex.rec (motive := fun _ => A) (K f3.s) (fun _ => none) (K f3.s) x = some ans := h2
      rw [Ex_rec] at h2
      obtain ⟨rr, q1, _⟩ := resultsE_sound k2 (fn := fn) (v := .tuple #[]) (by unfold resultsE; rw [hres]; rfl)
      have done : K f3.s = some ans → a'.defers = [] ∧ ∃ v, (results fn a'.tmps).run P w' = .ok v w' ∧ ∃ v' s' m', Ending.returned v = .returned v' ∧ u' = u' ∧ m.le m' ∧ Rel w0 m' s' w' ∧ K s' = some ans := fun hk =>
        ⟨k2.defers, rr, q1, _, f3.s, m', rfl, rfl, k1, k2.rel, hk⟩
      cases x with
      | exit i => cases h2
      | normal =>
        obtain ⟨d1, v, d2, d3⟩ := done h2
        exact ⟨d1, u', rfl, v, d2, d3⟩
      | ret =>
        obtain ⟨d1, v, d2, d3⟩ := done h2
        exact ⟨d1, u', rfl, v, d2, d3⟩
    rw [wpOpsS]
    simp only [List.getElem?_toArray, List.getElem?_cons_zero, w7, if_true, r7]
    rcases hu with ⟨rfl, rfl, hp⟩ | ⟨rfl, rfl, rfl⟩
    · have hrec : recoverD (c₀ :: ks) = some (rv, { c₀ with mode := .panicking [{ v := rv, recovered := true }] } :: ks) := by
        simp [recoverD, hmode]
      rw [hrec]
      exact fin _ rfl
    · have hrec : recoverD (c₀ :: ks) = none := by
        simp [recoverD, hmode]
      rw [hrec]
      refine fin _ ?_
      rw [← hmode]
  · cases h

/-- The pieces of a function's text that defers such a closure. -/
structure TolP where
  nt : Nat
  r0 : Code
  pre : Code
  id4 : Nat
  d18 : Tmp
  caps : Array Operand
  g : FuncId
  om : Oper
  od : Oper
  id5 : Nat
  ops5 : Array Oper
  post : Code
  res : List ResultVar
  clo : CloP

def finK (P : Program) (cn : CF) (lf : Nat) (T : TolP) (rv : Value) (cs : List Value) (t : PT Value) (s : St) : A :=
  cloK P cn lf T.clo rv cs s fun s' => resK P T.res t s' fun v => iteB (isPan v) none (some (v, s'))
def payK (v : Value) (K : Value → A) : A := Option.rec (motive := fun _ => A) none (fun l => nthK l 0 none K) (vTuple v)
def bodyK (P : Program) (cf : CF) (lf : Nat) (T : TolP) (cs : List Value) (t : PT Value) (s : St) : A :=
  (compOpsP P cf T.nt T.ops5 T.ops5.toList).go t s fun t2 s2 => (compCode P (cfN cf) (drawK P (cfN cf) T.nt) lf T.nt T.post).go t2 s2 fun x t3 s3 =>
    Ex.rec (motive := fun _ => A) (finK P (cfN cf) lf T .nilIface cs t3 s3) (fun _ => none) (finK P (cfN cf) lf T .nilIface cs t3 s3) x
def toldK (P : Program) (cf : CF) (lf : Nat) (T : TolP) (args : List Value) (s : St) : A :=
  iteB (Nat.ble args.length T.nt) (setCellsK args .leaf 0 fun t0 => (compCode P (cfN cf) (drawK P (cfN cf) T.nt) lf T.nt (.seq T.r0 T.pre)).go t0 s fun x t1 s1 =>
    Ex.rec (motive := fun _ => A)
      (opds T.caps.toList t1 fun cs => putK (some T.d18) T.nt (.func (.func T.g) #[] cs.toArray) t1 fun t2 =>
        optK (bodyK P cf lf T cs t2 s1) none fun p => Prod.rec (motive := fun _ => A) (fun v s' => iteB (isPan v) (payK v fun pv => finK P (cfN cf) lf T pv cs t2 s') (some (v, s'))) p)
      (fun _ => none) (resK P T.res t1 s1 fun v => some (v, s1)) x) none

def slotOf : ResultVar → Tmp
  | .tmp i => i
  | .cell i _ => i
structure TolOk (P : Program) (f : FuncId) (T : TolP) : Prop where
  body : ∃ fn, P.funcs[f]? = some fn ∧ fn.body = some (.seq T.r0 (.seq T.pre (.seq (.region T.id4 #[T.om, T.od] false) (.seq (.region T.id5 T.ops5 false) T.post)))) ∧ fn.results.toList = T.res ∧ fn.ntmps = T.nt ∧ (fn.name == "runtime.NumGoroutine") = false
  om : T.om.op = .makeFunc (.func T.g) #[] T.caps ∧ T.om.dst = some T.d18 ∧ T.om.guard = none
  od : (∃ aty, T.od.op = .defer { callee := .value (.tmp T.d18), args := #[], argTypes := aty }) ∧ T.od.dst = none ∧ T.od.guard = none
  caps : T.caps.toList.all okConst = true
  keep : T.ops5.toList.all (fun o => T.res.all fun r => !(o.dst == some (slotOf r))) = true
  clo : CloOk P T.g T.clo

theorem resOne_congr {t t' : PT Value} {nt : Nat} {s : St} {r : ResultVar} (h : t'.get (slotOf r) = t.get (slotOf r)) : resOne P ⟨t', nt, s⟩ r = resOne P ⟨t, nt, s⟩ r := by
  cases r with
  | tmp i => simp only [slotOf] at h; simp [resOne, ρof, h]
  | cell i ty => simp only [slotOf] at h; simp [resOne, ρof, h]
theorem resList_congr {t t' : PT Value} {nt : Nat} {s : St} : ∀ (l : List ResultVar), (∀ r ∈ l, t'.get (slotOf r) = t.get (slotOf r)) → resList P ⟨t', nt, s⟩ l = resList P ⟨t, nt, s⟩ l
  | [], _ => rfl
  | r :: l, h => by
    unfold resList
    rw [resOne_congr (h r (by simp)), resList_congr l fun q hq => h q (by simp [hq])]

/-- What told's contract says at its end. -/
def TEnd (w0 : KW) (m : Map) (v : Value) (s' : St) (e : Ending) (w' : World) : Prop := ∃ m' v', e = .returned v' ∧ m.le m' ∧ VR m' v v' ∧ Rel w0 m' s' w'

theorem resK_end {fn : Func} {T : TolP} (hres : fn.results.toList = T.res) {ds : List Deferred} {w0 : KW} {m m1 : Map} {t t' : PT Value} {s : St} {a : Act} {w : World} {K : KV} {ans : Value × St} (hm : m.le m1) (hR : FRel ds w0 m1 ⟨t', T.nt, s⟩ a w)
    (hag : ∀ r ∈ T.res, t'.get (slotOf r) = t.get (slotOf r)) (h : resK P T.res t s K = some ans) :
    ∃ v v', K v = some ans ∧ (results fn a.tmps).run P w = .ok v' w ∧ VR m1 v v' := by
  rw [← hres, resK_eq fn t T.nt s] at h
  have he : resultsE P fn ⟨t, T.nt, s⟩ = resultsE P fn ⟨t', T.nt, s⟩ := by
    unfold resultsE
    rw [hres, resList_congr (t := t) (t' := t') T.res hag]
  rw [he] at h
  cases hu : resultsE P fn ⟨t', T.nt, s⟩ with
  | none => rw [hu] at h; cases h
  | some u =>
    rw [hu] at h
    obtain ⟨u', q1, q2⟩ := resultsE_sound hR hu
    exact ⟨u, u', h, q1, q2⟩

theorem mapArr {α β : Type} (f : α → β) (a : Array α) : (a.toList.map f).toArray = a.map f := by
  apply Array.ext'
  rw [Array.toList_map]
theorem cloK_some {cf : CF} {lf : Nat} {c : CloP} {rv : Value} {cs : List Value} {s : St} {K : St → A} {ans : Value × St} (h : cloK P (cfN cf) lf c rv cs s K = some ans) : ∃ s', K s' = some ans := by
  unfold cloK at h
  rw [iteB_eq] at h
  split at h
  · rw [setCellsK_eq] at h
    obtain ⟨f1, _, _, _, h⟩ := putK_some' s s h
    obtain ⟨f2, _, _, _, h⟩ := putK_some' s s h
    have hnat := cfN_nat cf
    rw [compCode_eq hnat (drawE_nt _) lf c.nt (drawK_ok hnat c.nt)] at h
    obtain ⟨⟨x, f3⟩, _, h2⟩ := Option.bind_eq_some_iff.1 h
    have h2 : Ex.rec (motive := fun _ => A) (K f3.s) (fun _ => none) (K f3.s) x = some ans := h2
    rw [Ex_rec] at h2
    cases x with
    | exit i => cases h2
    | normal => exact ⟨_, h2⟩
    | ret => exact ⟨_, h2⟩
  · cases h
theorem resK_some {fn : Func} {T : TolP} (hres : fn.results.toList = T.res) {t : PT Value} {s : St} {K : KV} {ans : Value × St} (h : resK P T.res t s K = some ans) : ∃ v, K v = some ans := by
  rw [← hres, resK_eq fn t 0 s] at h
  cases hu : resultsE P fn ⟨t, 0, s⟩ with
  | none => rw [hu] at h; cases h
  | some u => rw [hu] at h; exact ⟨u, h⟩

theorem tol_leave {cf : CF} (hcf : FSound P cf) (hmx : P.follows .mixedOrders = true) {f : FuncId} {T : TolP} (hT : TolOk P f T) {fn : Func} (hres : fn.results.toList = T.res) {lf : Nat} {rv v : Value} {cs : List Value} {t t' : PT Value} {s s' : St}
    (h : finK P (cfN cf) lf T rv cs t s = some (v, s')) {w0 : KW} {m m1 : Map} (hle : m.le m1) {cs' : Array Value} {a : Act} {w : World} {d : Deferred} (hR : FRel [d] w0 m1 ⟨t', T.nt, s⟩ a w) (hd : d = { target := .fn (.func T.g) cs', args := #[] })
    (hag : ∀ r ∈ T.res, t'.get (slotOf r) = t.get (slotOf r)) (hv : VRs m1 cs cs'.toList) {u : FrameMode} (hu : (u = .panicking (chainOf rv) ∧ plain 8 rv = true) ∨ (u = .returning ∧ rv = .nilIface)) :
    Leaves P fn a.tmps (TEnd w0 m v s') [d] u w := by
  subst hd
  unfold finK at h
  obtain ⟨gn, g1, g2, g3, g4, g5⟩ := hT.clo.body
  have hne : u ≠ .run := by rcases hu with ⟨rfl, _⟩ | ⟨rfl, _⟩ <;> simp
  refine leaves_cons (f := T.g) (args := cs') hne ?_ ?_
  · have : (invoke (.fn (.func T.g) cs') #[]).run P w = (callFunc T.g (#[] ++ cs')).run P w := rfl
    rw [this, run_callFunc g1 g5 (by rw [g2]; rfl)]
    simp
  · have key : ∀ u', (u = .panicking (chainOf rv) ∧ u' = .panicking [{ v := rv, recovered := true }] ∧ plain 8 rv = true) ∨ (u = .returning ∧ rv = .nilIface ∧ u' = .returning) → settle u' = .returning →
        CallsD P T.g cs' u w fun
          | .returned _, u', w' => Leaves P fn a.tmps (TEnd w0 m v s') [] (settle u') w'
          | .panicked chain, u', w' => Leaves P fn a.tmps (TEnd w0 m v s') [] (raised u' chain) w'
          | .outgrown, _, w' => TEnd w0 m v s' .outgrown w' := by
      intro u' h1 h2
      refine (clo_sound hcf hmx hT.clo h hR.rel hR.glob hv h1).mono ?_
      rintro e u2 w' ⟨v0, s5, m5, rfl, rfl, k1, k2, k3⟩
      simp only [h2]
      have hF5 : FRel [{ target := .fn (.func T.g) cs', args := #[] }] w0 m5 ⟨t', T.nt, s5⟩ a w' := ⟨k2, hR.glob.mono k1, fun i => (hR.tmps i).mono k1, hR.size, hR.defers⟩
      obtain ⟨r, r', q1, q2, q3⟩ := resK_end hres (hle.trans k1) hF5 hag k3
      rw [iteB_eq] at q1
      split at q1
      · cases q1
      · simp only [Option.some.injEq, Prod.mk.injEq] at q1
        obtain ⟨rfl, rfl⟩ := q1
        exact ⟨r', q2, m5, r', rfl, hle.trans k1, q3, k2⟩
    rcases hu with ⟨h1, h2⟩ | ⟨h1, h2⟩
    · exact key _ (.inl ⟨h1, rfl, h2⟩) (by simp [settle])
    · exact key _ (.inr ⟨h1, h2, rfl⟩) rfl

theorem toldK_ok {cf : CF} (hcf : FSound P cf) (hm : P.follows .mixedOrders = true) {f : FuncId} {T : TolP} (hT : TolOk P f T) (lf : Nat) : Ext1 P f (toldK P cf lf T) := by
  intro args s v s' h
  obtain ⟨fn, hf, hb, hres, hnt, hname⟩ := hT.body
  refine ⟨⟨fn, hf, hname, by rw [hb]; rfl⟩, fun w0 m w args' hR hG hv => ?_⟩
  unfold toldK at h
  rw [iteB_eq] at h
  split at h
  · rename_i hle
    have hle := Nat.le_of_ble_eq_true hle
    have hlen : args.length = args'.size := by simpa using hv.1
    have hnat := cfN_nat cf
    have hok := cfN_ok hcf
    have hdr := drawE_ok hm _ hok
    rw [setCellsK_eq, compCode_eq hnat (drawE_nt _) lf T.nt (drawK_ok hnat T.nt)] at h
    obtain ⟨⟨x, f1⟩, h1, h2⟩ := Option.bind_eq_some_iff.1 h
    have hF : FRel [] w0 m ⟨setCells .leaf 0 args, T.nt, s⟩ { tmps := args' ++ Array.replicate (fn.ntmps - args'.size) undef, defers := [] } w :=
      ⟨hR, hG, args_tmps hv _, by simp; omega, rfl⟩
    refine calls_of_wp_defers (R := TEnd w0 m v s') hf hb ?_
    -- the early end
    have early : ∀ (f1 : FS) (m1 : Map) (a1 : Act) (w1 : World), m.le m1 → f1.nt = T.nt → FRel [] w0 m1 f1 a1 w1 → resK P T.res f1.t f1.s (fun v => some (v, f1.s)) = some (v, s') → bodyPostD P fn (TEnd w0 m v s') .ret a1 w1 := by
      intro f1 m1 a1 w1 hm1 hn1 hF1 hr
      obtain ⟨t1, nt1, s1⟩ := f1
      simp only at hn1; subst hn1
      obtain ⟨r, r', q1, q2, q3⟩ := resK_end hres hm1 hF1 (fun _ _ => rfl) hr
      simp only [Option.some.injEq, Prod.mk.injEq] at q1
      obtain ⟨rfl, rfl⟩ := q1
      show Leaves P fn a1.tmps _ a1.defers .returning w1
      rw [hF1.defers]
      exact ⟨r', q2, m1, r', rfl, hm1, q3, hF1.rel⟩
    have hnt1 := evalCode_nt (drawE_nt _) _ _ _ _ h1
    simp only at hnt1
    simp only [evalCode] at h1
    obtain ⟨⟨x0, f0⟩, h3, h4⟩ := Option.bind_eq_some_iff.1 h1
    have hnt0 := evalCode_nt (drawE_nt _) _ _ _ _ h3
    simp only at hnt0
    refine wp_seq (evalCode_sound hok hdr lf T.r0 _ _ f0 x0 m _ w h3 hF fun m1 a1 w1 k1 k2 => ?_)
    cases x0 with
    | exit i =>
      simp only [Option.some.injEq, Prod.mk.injEq] at h4
      obtain ⟨rfl, rfl⟩ := h4
      cases h2
    | ret =>
      simp only [Option.some.injEq, Prod.mk.injEq] at h4
      obtain ⟨rfl, rfl⟩ := h4
      exact early f0 m1 a1 w1 k1 hnt0 k2 h2
    | normal =>
      simp only at h4
      refine wp_seq (evalCode_sound hok hdr lf T.pre _ f0 f1 x m1 a1 w1 h4 k2 fun m2 a2 w2 k3 k4 => ?_)
      cases x with
      | exit i => cases h2
      | ret => exact early f1 m2 a2 w2 (k1.trans k3) hnt1 k4 h2
      | normal =>
        obtain ⟨t1, nt1, s1⟩ := f1
        simp only at hnt1; subst hnt1
        have h2 : (opds T.caps.toList t1 fun cs => putK (some T.d18) T.nt (.func (.func T.g) #[] cs.toArray) t1 fun t2 =>
          optK (bodyK P cf lf T cs t2 s1) none fun p => Prod.rec (motive := fun _ => A) (fun v s' => iteB (isPan v) (payK v fun pv => finK P (cfN cf) lf T pv cs t2 s') (some (v, s'))) p) = some (v, s') := h2
        rw [opds_eq] at h2
        obtain ⟨f2, p1, p2, p3, h5⟩ := putK_some' s1 s1 h2
        obtain ⟨t2, nt2, s2⟩ := f2
        simp only at p2 p3 h5; subst p2; subst p3
        -- the closure is made, and put aside
        show (Code.seq (.region T.id4 #[T.om, T.od] false) (.seq (.region T.id5 T.ops5 false) T.post)).wp P _ a2 w2
        refine wp_seq (wp_region ?_)
        show wpOps P #[T.om, T.od] _ [0, 1] a2 w2
        have wm : ∀ y, Region.wanted T.om y = true := fun y => by unfold Region.wanted; rw [hT.om.2.2]
        have wd : ∀ y, Region.wanted T.od y = true := fun y => by unfold Region.wanted; rw [hT.od.2.2]
        rw [wpOps_cons]
        unfold wpOp
        simp only [List.getElem?_toArray, List.getElem?_cons_zero, wm, if_true]
        have hev : evalAny P (cfD (cfN cf)) t1 T.om s2 = some (.func (.func T.g) #[] (T.caps.map (ρof t1)), s2) := by
          unfold evalAny
          have : okOp T.om = true := by
            unfold okOp; rw [hT.om.1]
            simpa [Op.operands] using hT.caps
          rw [this]
          simp only [ck, cond_true, Option.bind, hT.om.1, callTarget, evalOp]
          simp
        refine .inl (evalAny_wp hok hev k4 fun m3 v3 w3 k5 k6 k7 => ?_)
        have hF3 := k4.put (d := T.om.dst) (f' := ⟨t2, T.nt, s2⟩) (v := .func (.func T.g) #[] (T.caps.map (ρof t1))) (by rw [hT.om.2.1]; rw [show (T.caps.toList.map (ρof t1)).toArray = T.caps.map (ρof t1) from mapArr _ _] at p1; exact p1) k5 k6 k7
        rw [wpOps_cons]
        unfold wpOp
        simp only [List.getElem?_toArray, List.getElem?_cons_succ, List.getElem?_cons_zero, wd, if_true]
        cases k6 with
        | func _ _ a' _ b' hs1 hs2 hv1 hv2 =>
        have ha' : a' = #[] := by
          have := hs1.symm; simp at this; exact this
        subst ha'
        have hd18 : T.d18 < a2.tmps.size := by
          rw [k4.size]; exact (putT_some p1).2.2.1 T.d18 rfl
        have hval : (a2.put T.om.dst (.func (.func T.g) #[] b')).eval (.tmp T.d18) = .func (.func T.g) #[] b' := by
          show (a2.put T.om.dst _).tmps.getD T.d18 undef = _
          rw [hT.om.2.1]
          exact getD_put _ _ hd18
        obtain ⟨aty, hop⟩ := hT.od.1
        have hrun : (execOp (a2.put T.om.dst (.func (.func T.g) #[] b')).eval T.od).run P w3 = .ok (.defer { target := .fn (.func T.g) b', args := #[] }) w3 := by
          simp only [execOp, hop, resolve, hval, Deferred.ofValue, Array.map_empty, Array.append_empty]
          rfl
        refine .inl ?_
        unfold Oper.wp
        rw [hrun, Oper.upon_defer]
        have hF4 : FRel [{ target := .fn (.func T.g) b', args := #[] }] w0 m3 ⟨t2, T.nt, s2⟩ ({ (a2.put T.om.dst (.func (.func T.g) #[] b')) with defers := { target := .fn (.func T.g) b', args := #[] } :: (a2.put T.om.dst (.func (.func T.g) #[] b')).defers }.put T.od.dst undef) w3 := by
          rw [hT.od.2.1]
          exact ⟨hF3.rel, hF3.glob, hF3.tmps, hF3.size, by
            show _ :: (a2.put T.om.dst _).defers = _
            rw [hF3.defers]⟩
        have hvs : VRs m3 (T.caps.toList.map (ρof t1)) b'.toList := by
          have := VRs.of_arr hs2 hv2
          simpa using this
        generalize hA : ({ (a2.put T.om.dst (.func (.func T.g) #[] b')) with defers := { target := .fn (.func T.g) b', args := #[] } :: (a2.put T.om.dst (.func (.func T.g) #[] b')).defers }.put T.od.dst undef) = A4 at hF4
        show Exit.then _ _ .normal A4 w3
        show (Code.seq (.region T.id5 T.ops5 false) T.post).wp P _ A4 w3
        -- the body
        rw [optK_eq] at h5
        cases hB : bodyK P cf lf T (T.caps.toList.map (ρof t1)) t2 s2 with
        | none => rw [hB] at h5; cases h5
        | some p =>
          obtain ⟨vB, sB⟩ := p
          rw [hB] at h5
          simp only [Option.elim] at h5
          have hm3 : m.le m3 := (k1.trans k3).trans k5
          unfold bodyK at hB
          refine wp_seq (wp_region ?_)
          have hw := compOpsP_wp (ds := [{ target := .fn (.func T.g) b', args := #[] }]) (w0 := w0) (Q := Exit.then (T.post.wp P (bodyPostD P fn (TEnd w0 m v s'))) (bodyPostD P fn (TEnd w0 m v s'))) hcf T.ops5 (nt := T.nt) m3 (fun t => ∀ r ∈ T.res, t.get (slotOf r) = t2.get (slotOf r)) ?_ ?_ T.ops5.toList 0 t2 s2 _ m3 A4 w3 rfl hB (Map.le_refl m3) (fun _ _ => rfl) hF4 ?_
          · rwa [← List.range_eq_range', Array.length_toList] at hw
          · intro o ho t v0 s0 s9 f' hk hput r hr
            rw [← hk r hr]
            unfold putT at hput
            cases hdst : o.dst with
            | none => rw [hdst] at hput; simp only [Option.some.injEq] at hput; rw [← hput]
            | some d0 =>
              rw [hdst] at hput
              obtain ⟨_, _, hput⟩ := Option.bind_eq_some_iff.1 hput
              simp only [Option.some.injEq] at hput
              rw [← hput]
              simp only [PT.get_set]
              rw [if_neg]
              intro he
              have hkp := List.all_eq_true.1 (List.all_eq_true.1 hT.keep o ho) r hr
              rw [hdst, he] at hkp
              simp at hkp
          · -- a panic
            intro m4 pv a4 w4 s4 t4 q1 q2 q3 q4 q5
            obtain ⟨rfl, rfl⟩ := Prod.mk.inj q5
            rw [isPan_PAN, iteB_true] at h5
            have h5 : finK P (cfN cf) lf T pv (T.caps.toList.map (ρof t1)) t2 sB = some (v, s') := h5
            show Leaves P fn a4.tmps _ a4.defers (.panicking (chainOf pv)) w4
            rw [q4.defers]
            exact tol_leave hcf hm hT hres h5 (hm3.trans q1) q4 rfl q3 (hvs.mono q1) (.inl ⟨rfl, q2⟩)
          · -- the rest of the body
            intro m4 t4 s4 a4 w4 q1 q3 q4 q5
            show T.post.wp P _ a4 w4
            rw [compCode_eq hnat (drawE_nt _) lf T.nt (drawK_ok hnat T.nt)] at q5
            obtain ⟨⟨x5, f5⟩, r1, r2⟩ := Option.bind_eq_some_iff.1 q5
            have hnt5 := evalCode_nt (drawE_nt _) _ _ _ _ r1
            obtain ⟨t5, nt5, s5⟩ := f5
            simp only at hnt5; subst hnt5
            refine evalCode_sound hok hdr lf T.post _ _ ⟨t5, T.nt, s5⟩ x5 m4 a4 w4 r1 q4 fun m5 a5 w5 e1 e2 => ?_
            have fin : finK P (cfN cf) lf T .nilIface (T.caps.toList.map (ρof t1)) t5 s5 = some (vB, sB) → Leaves P fn a5.tmps (TEnd w0 m v s') a5.defers .returning w5 := by
              intro hf5
              have hnp : isPan vB = false := by
                unfold finK at hf5
                obtain ⟨s6, hf5⟩ := cloK_some hf5
                obtain ⟨v6, hf5⟩ := resK_some (fn := fn) hres hf5
                rw [iteB_eq] at hf5
                split at hf5
                · cases hf5
                · rename_i hnp
                  simp only [Option.some.injEq, Prod.mk.injEq] at hf5
                  rw [← hf5.1]; simpa using hnp
              rw [hnp, iteB_false] at h5
              simp only [Option.some.injEq, Prod.mk.injEq] at h5
              obtain ⟨rfl, rfl⟩ := h5
              rw [e2.defers]
              exact tol_leave hcf hm hT hres hf5 ((hm3.trans q1).trans e1) e2 rfl (fun _ _ => rfl) ((hvs.mono q1).mono e1) (.inr ⟨rfl, rfl⟩)
            have r2 : Ex.rec (motive := fun _ => A) (finK P (cfN cf) lf T .nilIface (T.caps.toList.map (ρof t1)) t5 s5) (fun _ => none) (finK P (cfN cf) lf T .nilIface (T.caps.toList.map (ρof t1)) t5 s5) x5 = some (vB, sB) := r2
            rw [Ex_rec] at r2
            cases x5 with
            | exit i => cases r2
            | normal => exact fin r2
            | ret => exact fin r2
  · cases h
end
end Go.AE.F
