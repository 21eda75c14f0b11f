import Derived.Test.YtkbclhkcceennaaDoorAeDrawD
import Derived.Test.YtkbclhkcceennaaDoorAeFastD
import Derived.Laws.Strings
set_option linter.unusedVariables false
set_option linter.unusedSimpArgs false
/-! Triples over abstract states: what a function does from every state of which something holds. -/
namespace Go.AE
open Go Go.RowKit
variable {P : Program}

/-- What a call does, from every world that the state stands for. -/
def CallT (P : Program) (f : FuncId) (args : List Value) (s : St) (Post : Value → St → Prop) : Prop :=
  (∃ fn, P.funcs[f]? = some fn ∧ (fn.name == "runtime.NumGoroutine") = false ∧ fn.body.isNone = false) ∧
  ∀ w0 m w (args' : Array Value), Rel w0 m s w → Glob m → VRs m args args'.toList → Calls P f args' w fun e w' => ∃ m' v v' s', e = .returned v' ∧ m.le m' ∧ VR m' v v' ∧ Rel w0 m' s' w' ∧ Post v s'

theorem CallT.mono {f : FuncId} {args : List Value} {s : St} {Post Post' : Value → St → Prop} (h : CallT P f args s Post) (hp : ∀ v s', Post v s' → Post' v s') : CallT P f args s Post' :=
  ⟨h.1, fun w0 m w args' hR hG hv => (h.2 w0 m w args' hR hG hv).mono fun e w' ⟨m', v, v', s', h1, h2, h3, h4, h5⟩ => ⟨m', v, v', s', h1, h2, h3, h4, hp v s' h5⟩⟩

/-- What code does. -/
def CodeT (P : Program) (nt : Nat) (c : Code) (Q : Ex → PT Value → St → Prop) (t : PT Value) (s : St) : Prop :=
  ∀ (ds : List Deferred) (w0 : KW) (m : Map) (a : Act) (w : World) (R : Exit → Act → World → Prop), FRel ds w0 m ⟨t, nt, s⟩ a w →
    (∀ x m' t' s' a' w', m.le m' → FRel ds w0 m' ⟨t', nt, s'⟩ a' w' → Q x t' s' → R (toExit x) a' w') → c.wp P R a w

theorem CodeT.mono {nt : Nat} {c : Code} {Q Q' : Ex → PT Value → St → Prop} {t : PT Value} {s : St} (h : CodeT P nt c Q t s) (hq : ∀ x t s, Q x t s → Q' x t s) : CodeT P nt c Q' t s :=
  fun ds w0 m a w R hR hk => h ds w0 m a w R hR fun x m' t' s' a' w' h1 h2 h3 => hk x m' t' s' a' w' h1 h2 (hq _ _ _ h3)

/-- Operations, one behind the other. -/
def OpsT (P : Program) (nt : Nat) (ops : Array Oper) (l : List Oper) (Q : PT Value → St → Prop) (t : PT Value) (s : St) : Prop :=
  ∀ (k : Nat) (ds : List Deferred) (w0 : KW) (m : Map) (a : Act) (w : World) (R : Exit → Act → World → Prop), l = ops.toList.drop k → FRel ds w0 m ⟨t, nt, s⟩ a w →
    (∀ m' t' s' a' w', m.le m' → FRel ds w0 m' ⟨t', nt, s'⟩ a' w' → Q t' s' → R .normal a' w') → wpOps P ops R (List.range' k l.length) a w

def setD (t : PT Value) (d : Option Tmp) (v : Value) : PT Value := match d with
  | some d => t.set d (some v)
  | none => t
def dstLt (d : Option Tmp) (nt : Nat) : Bool := match d with
  | some d => Nat.blt d nt
  | none => true
theorem putT_of {t : PT Value} {nt : Nat} {s s0 : St} {d : Option Tmp} {v : Value} (h : dstLt d nt = true) : putT ⟨t, nt, s0⟩ d v s = some ⟨setD t d v, nt, s⟩ := by
  unfold putT setD
  cases d with
  | none => rfl
  | some d => simp only [dstLt] at h; simp [ck, h]

/-- What an operation of the evaluator yields, in words that are easily rewritten. -/
def binI (op : BinOp) (j k : IntKind) (a b : Int) : Option Value := match op with
  | .shl => cond (decide (b < 0)) none (some (.int j (j.wrap (a * 2 ^ (min b.toNat j.bits)))))
  | .shr => cond (decide (b < 0)) none (some (.int j (a.fdiv (2 ^ (min b.toNat j.bits)))))
  | .add => cond (decide (j = k)) (some (.int j (j.wrap (a + b)))) none
  | .sub => cond (decide (j = k)) (some (.int j (j.wrap (a - b)))) none
  | .mul => cond (decide (j = k)) (some (.int j (j.wrap (a * b)))) none
  | .quo => cond (decide (j = k)) (cond (decide (b = 0)) none (some (.int j (j.wrap (a.tdiv b))))) none
  | .rem => cond (decide (j = k)) (cond (decide (b = 0)) none (some (.int j (a.tmod b)))) none
  | .and => cond (decide (j = k)) (some (.int j (j.wrap (BitVec.ofInt j.bits a &&& BitVec.ofInt j.bits b).toNat))) none
  | .or => cond (decide (j = k)) (some (.int j (j.wrap (BitVec.ofInt j.bits a ||| BitVec.ofInt j.bits b).toNat))) none
  | .xor => cond (decide (j = k)) (some (.int j (j.wrap (BitVec.ofInt j.bits a ^^^ BitVec.ofInt j.bits b).toNat))) none
  | .andNot => cond (decide (j = k)) (some (.int j (j.wrap (BitVec.ofInt j.bits a &&& ~~~ BitVec.ofInt j.bits b).toNat))) none
  | .eql => cond (decide (j = k)) (some (.bool (a == b))) none
  | .neq => cond (decide (j = k)) (some (.bool (a != b))) none
  | .lss => cond (decide (j = k)) (some (.bool (a < b))) none
  | .leq => cond (decide (j = k)) (some (.bool (a ≤ b))) none
  | .gtr => cond (decide (j = k)) (some (.bool (a > b))) none
  | .geq => cond (decide (j = k)) (some (.bool (a ≥ b))) none

theorem binI_ok {op : BinOp} {j k : IntKind} {a b : Int} {v : Value} (t : TypeId) (h : binI op j k a b = some v) : pureEval P (Go.binOp op t (.int j a) (.int k b)) = some v := by
  have hc : ∀ {p : Prop} [Decidable p] {x : Option Value}, cond (decide p) x none = some v → p ∧ x = some v := fun {p} _ {x} h => by
    by_cases hp : p
    · rw [decide_eq_true hp] at h; exact ⟨hp, h⟩
    · rw [decide_eq_false hp] at h; cases h
  have hn : ∀ {p : Prop} [Decidable p] {x : Option Value}, cond (decide p) none x = some v → ¬ p ∧ x = some v := fun {p} _ {x} h => by
    by_cases hp : p
    · rw [decide_eq_true hp] at h; cases h
    · rw [decide_eq_false hp] at h; exact ⟨hp, h⟩
  cases op <;> simp only [binI] at h
  case shl =>
    obtain ⟨h1, h2⟩ := hn h
    show pureEval P (Op.shift .shl j a k b) = _
    unfold Op.shift
    rw [if_neg h1]; exact h2
  case shr =>
    obtain ⟨h1, h2⟩ := hn h
    show pureEval P (Op.shift .shr j a k b) = _
    unfold Op.shift
    rw [if_neg h1]; exact h2
  case quo =>
    obtain ⟨he, h0⟩ := hc h
    subst he
    obtain ⟨h1, h2⟩ := hn h0
    simp only [Go.binOp, ne_eq, not_true_eq_false, if_false, Op.intDiv, h1]
    exact h2
  case rem =>
    obtain ⟨he, h0⟩ := hc h
    subst he
    obtain ⟨h1, h2⟩ := hn h0
    simp only [Go.binOp, ne_eq, not_true_eq_false, if_false, Op.intDiv, h1]
    exact h2
  all_goals
    obtain ⟨he, h0⟩ := hc h
    subst he
    simp only [Go.binOp, ne_eq, not_true_eq_false, if_false, Op.intArith, Op.intBits, Op.intCmp]
    exact h0

/-- '==' where both are nil, or one is. -/
def eqN (P : Program) (t : TypeId) (x y : Value) : Option Bool := match x, y with
  | .slice none _ _, .slice none _ _ => (P.underlying t).bind fun d => match d with
    | .slice _ => some true
    | _ => none
  | .pointer none, .pointer none => (P.underlying t).bind fun d => match d with
    | .pointer _ => some true
    | _ => none
  | x, y => eEqNil P t x y
def nilI (P : Program) (op : BinOp) (t : TypeId) (x y : Value) : Option Value := match op with
  | .eql => (eqN P t x y).bind fun b => some (.bool b)
  | .neq => (eqN P t x y).bind fun b => some (.bool (!b))
  | _ => none
def strI (op : BinOp) (a b : ByteArray) : Option Value := match op with
  | .eql => some (.bool (a.data.toList == b.data.toList))
  | .neq => some (.bool (!(a.data.toList == b.data.toList)))
  | _ => none
def ofElse (r : Option Value) (s : St) (y : Option (Value × St)) : Option (Value × St) := match r with
  | some v => some (v, s)
  | none => y
def evBin (P : Program) (ρ : Operand → Value) (o : Oper) (op : BinOp) (t : TypeId) (x y : Value) (s : St) : Option (Value × St) := match x, y with
  | .int j a, .int k b => (binI op j k a b).bind fun v => some (v, s)
  | .string a, .string b => ofElse (strI op a b) s (evalOp P ρ o s)
  | x, y => ofElse (nilI P op t x y) s (evalOp P ρ o s)
def notI (k : IntKind) (n : Int) : Int := k.wrap (BitVec.ofInt k.bits (if k.signed then -1 else k.max) ^^^ BitVec.ofInt k.bits n).toNat
def evUn (P : Program) (ρ : Operand → Value) (o : Oper) (op : UnOp) (x : Value) (s : St) : Option (Value × St) := match op, x with
  | .not, .bool b => some (.bool (!b), s)
  | .neg, .int k n => some (.int k (k.wrap (0 - n)), s)
  | .xor, .int k n => some (.int k (notI k n), s)
  | _, _ => evalOp P ρ o s
def evConv (P : Program) (ρ : Operand → Value) (o : Oper) (src dst : TypeId) (x : Value) (s : St) : Option (Value × St) := match x with
  | .int _ n => (P.underlying src).bind fun _ => (P.underlying dst).bind fun d => match d with
    | .int k => some (.int k (k.wrap n), s)
    | _ => none
  | .string b => match eToString P src dst (.string b) s with
    | some r => some r
    | none => evalOp P ρ o s
  | x => eToString P src dst x s
def pickV (c x y : Value) (s : St) : Option (Value × St) := match c with
  | .bool b => some (cond b x y, s)
  | _ => none
def ev (P : Program) (ρ : Operand → Value) (o : Oper) (s : St) : Option (Value × St) := match o.op with
  | .move x | .assign x => some (ρ x, s)
  | .pick c a b => pickV (ρ c) (ρ a) (ρ b) s
  | .alloc elem => eAlloc P elem s
  | .box elem x => eBox elem (ρ x) s
  | .load t a => eLoad P t (ρ a) s
  | .store t a x => eStore P t (ρ a) (ρ x) s
  | .nilCheck x => eNil (ρ x) s
  | .fieldAddr t x f => eFieldAddr P t (ρ x) f s
  | .indexAddr t x ix => eIndexAddr P t (ρ x) (ρ ix) s
  | .field t x f => eField P t (ρ x) f s
  | .index t x ix => eIndex P t (ρ x) (ρ ix) s
  | .extract x ix => eExtract (ρ x) ix s
  | .build t parts => eBuild P t (parts.toList.map fun p => (p.1, ρ p.2)) s
  | .buildSlice t len parts => eBuildSlice P t len (parts.toList.map fun p => (p.1, ρ p.2)) s
  | .makeSlice t l c => eMakeSlice P t (ρ l) (ρ c) s
  | .makeFunc fn first captured => some (.func fn (first.map ρ) (captured.map ρ), s)
  | .binOp op t x y _ => evBin P ρ o op t (ρ x) (ρ y) s
  | .unOp op _ x => evUn P ρ o op (ρ x) s
  | .convert src dst x => evConv P ρ o src dst (ρ x) s
  | .call { callee := .builtin .append, args, argTypes } => match argTypes.toList, args.toList with
    | [t, ty], [x, y] => eAppend P t ty (ρ x) (ρ y) s
    | _, _ => none
  | .call { callee := .builtin .len, args, argTypes } => match argTypes.toList, args.toList with
    | [t], [x] => eLen P t (ρ x) s
    | _, _ => none
  | .call { callee := .builtin .copy, args, argTypes } => match argTypes.toList, args.toList with
    | [t, _], [x, y] => eCopy P t (ρ x) (ρ y) s
    | _, _ => none
  | _ => evalOp P ρ o s

theorem pureEval_underlying {t : TypeId} {d : TypeDesc} (hd : P.underlying t = some d) : pureEval P (underlying t) = some d := by
  unfold underlying
  show pureEval P (Sem.bind program _) = _
  simp only [program, Sem.bind, pureEval, hd]
  rfl

theorem eqN_ok {ρ : Operand → Value} {o : Oper} {s : St} {op : BinOp} {t yt : TypeId} {x y : Operand} {v : Value} (ho : o.op = .binOp op t x y yt) (h : nilI P op t (ρ x) (ρ y) = some v) : evalOp P ρ o s = some (v, s) := by
  have both : ∀ (b : Bool) (u w : Value), ρ x = u → ρ y = w → AE.plain 8 u = true → AE.plain 8 w = true → (op = .eql ∨ op = .neq) → eEqNil P t u w = none → (∀ q : Bool, pureEval P (eqGuard op t x y u w) = some ()) → pureEval P (Op.equal t u w) = some true → (∀ r : Value, Go.binOp .eql t u w = (do pure (.bool (← Op.equal t u w))) ∧ Go.binOp .neq t u w = (do pure (.bool (!(← Op.equal t u w))))) →
      evalOp P ρ o s = some (.bool (cond (decide (op = .eql)) true false), s) := by
    intro b u w hx hy pu pw hop hn hg he hb
    have hp : ePure P ρ o s = some (.bool (cond (decide (op = .eql)) true false), s) := by
      refine F.evalPure_of (fun z hz => ?_) rfl ?_
      · rw [ho] at hz
        simp only [Op.operands, List.mem_cons, List.not_mem_nil, or_false] at hz
        rcases hz with rfl | rfl
        · rw [hx]; exact pu
        · rw [hy]; exact pw
      · unfold execOp
        rw [ho]
        simp only [hx, hy]
        rw [F.pureEval_bind (P := P) _ _ (.bool (cond (decide (op = .eql)) true false)) (by
          rw [F.pureEval_bind (P := P) _ _ () (hg true)]
          rcases hop with rfl | rfl
          · rw [(hb undef).1, F.pureEval_bind (P := P) _ _ true he]; rfl
          · rw [(hb undef).2, F.pureEval_bind (P := P) _ _ true he]; rfl)]
        rfl
    unfold evalOp
    rw [ho]
    rcases hop with rfl | rfl <;> simp only [hx, hy, hn, Option.bind, AE.orElse] <;> exact hp
  have one : ∀ b, eEqNil P t (ρ x) (ρ y) = some b → (op = .eql → evalOp P ρ o s = some (.bool b, s)) ∧ (op = .neq → evalOp P ρ o s = some (.bool (!b), s)) := fun b hb => by
    constructor
    · rintro rfl; unfold evalOp; rw [ho]; simp only [hb]; rfl
    · rintro rfl; unfold evalOp; rw [ho]; simp only [hb]; rfl
  have main : ∀ b, eqN P t (ρ x) (ρ y) = some b → (op = .eql → evalOp P ρ o s = some (.bool b, s)) ∧ (op = .neq → evalOp P ρ o s = some (.bool (!b), s)) := by
    intro b hb
    unfold eqN at hb
    split at hb
    · rename_i n c n' c' hx hy
      obtain ⟨d, hd, hb⟩ := Option.bind_eq_some_iff.1 hb
      split at hb
      · rename_i e
        simp only [Option.some.injEq] at hb; subst hb
        have hne : eEqNil P t (.slice none n c) (.slice none n' c') = none := by unfold eEqNil; rw [hd]; rfl
        have hq : pureEval P (Op.equal t (.slice none n c) (.slice none n' c')) = some true := by
          unfold Op.equal
          show pureEval P (Op.equalIn (9999 + 1) t _ _) = _
          unfold Op.equalIn
          rw [F.pureEval_bind (P := P) _ _ _ (pureEval_underlying hd)]
          rfl
        constructor
        · intro e; have := both true _ _ hx hy rfl rfl (.inl e) hne (fun _ => by subst e; rfl) hq (fun _ => ⟨rfl, rfl⟩); rw [this, e]; rfl
        · intro e; have := both true _ _ hx hy rfl rfl (.inr e) hne (fun _ => by subst e; rfl) hq (fun _ => ⟨rfl, rfl⟩); rw [this, e]; rfl
      · cases hb
    · rename_i hx hy
      obtain ⟨d, hd, hb⟩ := Option.bind_eq_some_iff.1 hb
      split at hb
      · rename_i e
        simp only [Option.some.injEq] at hb; subst hb
        have hne : eEqNil P t (.pointer none) (.pointer none) = none := by unfold eEqNil; rw [hd]; rfl
        have hq : pureEval P (Op.equal t (.pointer none) (.pointer none)) = some true := by
          unfold Op.equal
          show pureEval P (Op.equalIn (9999 + 1) t _ _) = _
          unfold Op.equalIn
          rw [F.pureEval_bind (P := P) _ _ _ (pureEval_underlying hd)]
          rfl
        constructor
        · intro e; have := both true _ _ hx hy rfl rfl (.inl e) hne (fun _ => by subst e; rfl) hq (fun _ => ⟨rfl, rfl⟩); rw [this, e]; rfl
        · intro e; have := both true _ _ hx hy rfl rfl (.inr e) hne (fun _ => by subst e; rfl) hq (fun _ => ⟨rfl, rfl⟩); rw [this, e]; rfl
      · cases hb
    · exact one b hb
  unfold nilI at h
  split at h
  · obtain ⟨b, hb, h⟩ := Option.bind_eq_some_iff.1 h
    simp only [Option.some.injEq] at h; subst h
    exact (main b hb).1 rfl
  · obtain ⟨b, hb, h⟩ := Option.bind_eq_some_iff.1 h
    simp only [Option.some.injEq] at h; subst h
    exact (main b hb).2 rfl
  · cases h

theorem strI_ok {ρ : Operand → Value} {o : Oper} {s : St} {op : BinOp} {t yt : TypeId} {x y : Operand} {a b : ByteArray} {v : Value} (ho : o.op = .binOp op t x y yt) (hx : ρ x = .string a) (hy : ρ y = .string b) (h : strI op a b = some v) : evalOp P ρ o s = some (v, s) := by
  have hne : eEqNil P t (.string a) (.string b) = none := by
    unfold eEqNil
    cases P.underlying t with
    | none => rfl
    | some d => cases d <;> rfl
  have hp : ePure P ρ o s = some (v, s) := by
    have hv : AE.plain 8 v = true := by
      unfold strI at h
      split at h
      · cases h; rfl
      · cases h; rfl
      · cases h
    refine F.evalPure_of (fun z hz => ?_) hv ?_
    · rw [ho] at hz
      simp only [Op.operands, List.mem_cons, List.not_mem_nil, or_false] at hz
      rcases hz with rfl | rfl
      · rw [hx]; rfl
      · rw [hy]; rfl
    · unfold execOp
      rw [ho]
      simp only [hx, hy]
      have hg : pureEval P (eqGuard op t x y (.string a) (.string b)) = some () := by cases op <;> rfl
      rw [F.pureEval_bind (P := P) _ _ v (by
        rw [F.pureEval_bind (P := P) _ _ () hg]
        unfold strI at h
        split at h
        · rw [binOp_string_eql, ByteArray.toList_eq, ByteArray.toList_eq]; exact h
        · rw [binOp_string_neq, ByteArray.toList_eq, ByteArray.toList_eq]; exact h
        · cases h)]
      rfl
  unfold evalOp
  rw [ho]
  unfold strI at h
  split at h
  · simp only [hx, hy, hne, Option.bind, AE.orElse]; exact hp
  · simp only [hx, hy, hne, Option.bind, AE.orElse]; exact hp
  · cases h

theorem ev_ok {ρ : Operand → Value} {o : Oper} {s : St} {r : Value × St} (h : ev P ρ o s = some r) : evalOp P ρ o s = some r := by
  unfold ev at h
  split at h
  case h_18 op t x y yt ho =>
    unfold evBin at h
    split at h
    · rename_i j a k b hx hy
      obtain ⟨v, h1, h2⟩ := Option.bind_eq_some_iff.1 h
      simp only [Option.some.injEq] at h2; subst h2
      exact F.evalOp_binInt ho s hx hy (binI_ok t h1)
    · rename_i a b hx hy
      unfold ofElse at h
      split at h
      · rename_i v hs
        simp only [Option.some.injEq] at h; subst h
        exact strI_ok ho hx hy hs
      · exact h
    · unfold ofElse at h
      split at h
      · rename_i v hs
        simp only [Option.some.injEq] at h; subst h
        exact eqN_ok ho hs
      · exact h
  case h_19 op t x ho =>
    unfold evUn at h
    split at h
    · rename_i b hx
      simp only [Option.some.injEq] at h; subst h
      have : evalOp P ρ o s = ePure P ρ o s := by unfold evalOp; rw [ho]
      rw [this]
      refine F.evalPure_of (fun z hz => ?_) rfl ?_
      · rw [ho] at hz
        simp only [Op.operands, List.mem_cons, List.not_mem_nil, or_false] at hz
        subst hz; rw [hx]; rfl
      · unfold execOp; rw [ho]; simp only [hx]; rfl
    · rename_i k n hx
      simp only [Option.some.injEq] at h; subst h
      have : evalOp P ρ o s = ePure P ρ o s := by unfold evalOp; rw [ho]
      rw [this]
      refine F.evalPure_of (fun z hz => ?_) rfl ?_
      · rw [ho] at hz
        simp only [Op.operands, List.mem_cons, List.not_mem_nil, or_false] at hz
        subst hz; rw [hx]; rfl
      · unfold execOp; rw [ho]; simp only [hx]; rfl
    · rename_i k n hx
      simp only [Option.some.injEq] at h; subst h
      have : evalOp P ρ o s = ePure P ρ o s := by unfold evalOp; rw [ho]
      rw [this]
      refine F.evalPure_of (fun z hz => ?_) rfl ?_
      · rw [ho] at hz
        simp only [Op.operands, List.mem_cons, List.not_mem_nil, or_false] at hz
        subst hz; rw [hx]; rfl
      · unfold execOp; rw [ho]; simp only [hx]; rfl
    · exact h
  case h_20 src dst x ho =>
    unfold evConv at h
    split at h
    · rename_i k n hx
      obtain ⟨d0, hs, h⟩ := Option.bind_eq_some_iff.1 h
      obtain ⟨d1, hd, h⟩ := Option.bind_eq_some_iff.1 h
      split at h
      · rename_i kk
        simp only [Option.some.injEq] at h; subst h
        have : evalOp P ρ o s = ePure P ρ o s := by unfold evalOp; rw [ho]; simp only [hx]
        rw [this]
        refine F.evalPure_of (fun z hz => ?_) rfl ?_
        · rw [ho] at hz
          simp only [Op.operands, List.mem_cons, List.not_mem_nil, or_false] at hz
          subst hz; rw [hx]; rfl
        · unfold execOp; rw [ho]; simp only [hx]
          unfold Go.convert
          rw [F.pureEval_bind (P := P) _ _ (.int kk (kk.wrap n)) (by
            rw [F.pureEval_bind (P := P) _ _ d0 (pureEval_underlying hs), F.pureEval_bind (P := P) _ _ _ (pureEval_underlying hd)]; cases d0 <;> rfl)]
          rfl
      · cases h
    · rename_i b hx
      split at h
      · rename_i r' hr
        simp only [Option.some.injEq] at h; subst h
        unfold evalOp; rw [ho]; simp only [hx, hr]; rfl
      · exact h
    · rename_i h1 h2
      unfold evalOp; rw [ho]
      cases hx : ρ x with
      | int k n => exact absurd hx (by intro hh; exact h1 _ _ hh)
      | string b => exact absurd hx (by intro hh; exact h2 _ hh)
      | _ => rw [hx] at h; simpa only [hx] using h
  case h_3 c a b ho =>
    unfold pickV at h
    split at h
    · rename_i q hq
      simp only [Option.some.injEq] at h; subst h
      unfold evalOp; rw [ho]; simp only [hq]
      cases q <;> rfl
    · cases h
  all_goals first
    | (rename_i ho; unfold evalOp; rw [ho]; exact h)
    | (rename_i ho _; unfold evalOp; rw [ho]; exact h)
    | exact h

/-- What must hold behind what is yielded. -/
def bindP (r : Option (Value × St)) (K : Value → St → Prop) : Prop := match r with
  | some p => K p.1 p.2
  | none => False
theorem bindP_some (v : Value) (s : St) (K : Value → St → Prop) : bindP (some (v, s)) K = K v s := of_eq_true (eq_self _)
def fnP' (v : Value) (K : FuncId → List Value → List Value → Prop) : Prop := match v with
  | .func (.func f) a b => K f a.toList b.toList
  | _ => False
theorem fnP'_func (f : FuncId) (a b : Array Value) (K : FuncId → List Value → List Value → Prop) : fnP' (.func (.func f) a b) K = K f a.toList b.toList := of_eq_true (eq_self _)

/-- What must hold ahead of operations. -/
def wpL (P : Program) (ops : Array Oper) (Q : PT Value → St → Prop) : List Oper → PT Value → St → Prop
  | [], t, s => Q t s
  | o :: l, t, s => match Region.wanted o (yieldedE ops t) with
    | true => match callTarget o.op with
      | some fa => fnP' (ρof t fa.1) fun f a b => CallT P f (a ++ fa.2.toList.map (ρof t) ++ b) s fun v s' => wpL P ops Q l (setD t o.dst v) s'
      | none => bindP (ev P (ρof t) o s) fun v s' => wpL P ops Q l (setD t o.dst v) s'
    | false => wpL P ops Q l (setD t o.dst undef) s

/-- What stands in the code alone. -/
def opOk (nt : Nat) (o : Oper) : Bool := okOp o && dstLt o.dst nt
def codeOk (nt : Nat) : Code → Bool
  | .region _ ops _ => ops.toList.all (opOk nt)
  | .seq a b => codeOk nt a && codeOk nt b
  | .cond _ a b => codeOk nt a && codeOk nt b
  | .block _ a | .loop a => codeOk nt a
  | _ => true

theorem evalAny_ev {cf : CallF} {t : PT Value} {o : Oper} {s : St} {r : Value × St} (hct : callTarget o.op = none) (hok : okOp o = true) (h : ev P (ρof t) o s = some r) : evalAny P cf t o s = some r := by
  unfold evalAny
  rw [hok, hct]
  exact ev_ok h

theorem wpL_sound {nt : Nat} {ops : Array Oper} {Q : PT Value → St → Prop} : ∀ (l : List Oper) (t : PT Value) (s : St), l.all (opOk nt) = true → wpL P ops Q l t s → OpsT P nt ops l Q t s
  | [], t, s, _, h => fun k ds w0 m a w R hl hR hk => hk m t s a w (Map.le_refl m) hR h
  | o :: l, t, s, hst, h => fun k ds w0 m a w R hl hR hk => by
    simp only [List.all_cons, Bool.and_eq_true, opOk] at hst
    obtain ⟨⟨h1, h2⟩, hst⟩ := hst
    have hok : ops[k]? = some o := by
      have : (ops.toList.drop k)[0]? = some o := by rw [← hl]; rfl
      simpa using this
    have hl' : l = ops.toList.drop (k + 1) := by
      have : (ops.toList.drop k).tail = ops.toList.drop (k + 1) := by simp
      rw [← this, ← hl]; rfl
    have hwe : Region.wanted o (yieldedE ops t) = Region.wanted o (yielded ops a.tmps) := by rw [yielded_eq (f := ⟨t, nt, s⟩) hR]
    simp only [List.length_cons, List.range'_succ]
    rw [wpOps_cons]
    unfold wpOp
    simp only [hok]
    unfold wpL at h
    rw [hwe] at h
    split at h
    · rename_i hw
      rw [if_pos hw]
      refine .inl ?_
      cases hct : callTarget o.op with
      | some fa =>
        rw [hct] at h
        simp only at h
        obtain ⟨g, args⟩ := fa
        unfold fnP' at h
        split at h
        · rename_i f a0 b0 hfn
          obtain ⟨⟨fn, e1, e2, e3⟩, hc⟩ := h
          have hop : ∃ argTypes, o.op = .call { callee := .value g, args, argTypes } := by
            unfold callTarget at hct
            split at hct
            · rename_i f' args' aty heq
              simp only [Option.some.injEq, Prod.mk.injEq] at hct
              obtain ⟨rfl, rfl⟩ := hct
              exact ⟨_, heq⟩
            · cases hct
          obtain ⟨aty, hop⟩ := hop
          have hρ : ∀ x ∈ o.op.operands, VR m (ρof t x) (a.eval x) := fun x hx => hR.eval x (by
            have := List.all_eq_true.1 h1 x (Array.mem_toList_iff.2 hx); exact this)
          have hg := hρ g (by rw [hop]; simp [Op.operands, Call.operands])
          simp only at hfn
          rw [hfn] at hg
          have hargs : ∀ x ∈ args.toList, VR m (ρof t x) (a.eval x) := fun x hx => hρ x (by rw [hop]; simp [Op.operands, Call.operands]; exact .inr (by simpa using hx))
          cases hge : a.eval g <;> rw [hge] at hg <;> try (cases hg; done)
          rename_i fn' first' captured'
          cases hg with
          | func _ _ _ _ _ hsz1 hsz2 hv1 hv2 =>
            have hrun : (execOp a.eval o).run P w = .ok (.enter f (first' ++ args.map a.eval ++ captured')) w := by
              simp only [execOp, hop, resolve, hge, Deferred.ofValue, Sem.run_bind, Sem.run_pure, Result.andThen_ok, invoke]
              exact run_callFunc e1 e2 e3 _
            have := hc w0 m w (first' ++ args.map a.eval ++ captured') hR.rel hR.glob (by
              simp only [Array.toList_append, Array.toList_map]
              exact ((VRs.of_arr hsz1 hv1).append (VRs.map _ hargs)).append (VRs.of_arr hsz2 hv2))
            unfold Oper.wp
            rw [hrun, Oper.upon_enter]
            refine this.mono ?_
            rintro e w' ⟨m', v, v', s', rfl, k1, k2, k3, k4⟩
            exact wpL_sound l _ _ hst k4 (k + 1) ds w0 m' _ w' R hl' (hR.put (putT_of h2) k1 k2 k3) fun m'' t'' s'' a'' w'' q1 q2 q3 => hk m'' t'' s'' a'' w'' (k1.trans q1) q2 q3
        · exact h.elim
      | none =>
        rw [hct] at h
        simp only at h
        unfold bindP at h
        split at h
        case h_2 => exact h.elim
        rename_i p h3
        obtain ⟨v, s'⟩ := p
        have h4 := h
        simp only at h4
        exact evalAny_wp (cf := fun _ _ _ => none) (fun f args s v s' h => by cases h) (evalAny_ev hct h1 h3) hR fun m' v' w' k1 k2 k3 =>
          wpL_sound l _ _ hst h4 (k + 1) ds w0 m' _ w' R hl' (hR.put (putT_of h2) k1 k2 k3) fun m'' t'' s'' a'' w'' q1 q2 q3 => hk m'' t'' s'' a'' w'' (k1.trans q1) q2 q3
    · rename_i hw
      rw [if_neg (by rw [hw]; simp)]
      exact wpL_sound l _ _ hst h (k + 1) ds w0 m _ w R hl' (hR.put (putT_of h2) (Map.le_refl m) (undef_VR m) hR.rel) hk

def seqQ (K : PT Value → St → Prop) (Q : Ex → PT Value → St → Prop) : Ex → PT Value → St → Prop
  | .normal, t, s => K t s
  | x, t, s => Q x t s
def blockQ (id : Nat) (Q : Ex → PT Value → St → Prop) : Ex → PT Value → St → Prop
  | .exit i, t, s => if i = id then Q .normal t s else Q (.exit i) t s
  | x, t, s => Q x t s
def condP (v : Value) (x y : Prop) : Prop := match v with
  | .bool b => (b = true → x) ∧ (b = false → y)
  | _ => False
/-- What must hold ahead of code. -/
def wpC (P : Program) (nt : Nat) : Code → (Ex → PT Value → St → Prop) → PT Value → St → Prop
  | .skip, Q, t, s => Q .normal t s
  | .region id ops draw, Q, t, s => match draw with
    | false => wpL P ops (Q .normal) ops.toList t s
    | true => CodeT P nt (.region id ops true) Q t s
  | .seq a b, Q, t, s => wpC P nt a (seqQ (wpC P nt b Q) Q) t s
  | .cond c a b, Q, t, s => condP (ρof t c) (wpC P nt a Q t s) (wpC P nt b Q t s)
  | .block id a, Q, t, s => wpC P nt a (blockQ id Q) t s
  | .loop a, Q, t, s => CodeT P nt (.loop a) Q t s
  | .exit i, Q, t, s => Q (.exit i) t s
  | .ret, Q, t, s => Q .ret t s
  | _, _, _, _ => False

theorem wpC_sound {nt : Nat} : ∀ (c : Code) (Q : Ex → PT Value → St → Prop) (t : PT Value) (s : St), codeOk nt c = true → wpC P nt c Q t s → CodeT P nt c Q t s := by
  intro c
  induction c with
  | skip => intro Q t s _ h ds w0 m a w R hR hk; exact wp_skip (hk .normal m t s a w (Map.le_refl m) hR h)
  | region id ops draw =>
    intro Q t s hc h
    cases draw with
    | true => exact h
    | false =>
      intro ds w0 m a w R hR hk
      refine wp_region ?_
      have := wpL_sound ops.toList t s hc h 0 ds w0 m a w R rfl hR fun m' t' s' a' w' q1 q2 q3 => hk .normal m' t' s' a' w' q1 q2 q3
      rwa [← List.range_eq_range', Array.length_toList] at this
  | seq x y ihx ihy =>
    intro Q t s hc h ds w0 m a w R hR hk
    simp only [codeOk, Bool.and_eq_true] at hc
    refine wp_seq (ihx _ t s hc.1 h ds w0 m a w _ hR fun e m1 t1 s1 a1 w1 h1 h2 h3 => ?_)
    cases e with
    | normal => exact ihy Q t1 s1 hc.2 h3 ds w0 m1 a1 w1 R h2 fun x m2 t2 s2 a2 w2 k1 k2 k3 => hk x m2 t2 s2 a2 w2 (h1.trans k1) k2 k3
    | exit i => exact hk (.exit i) m1 t1 s1 a1 w1 h1 h2 h3
    | ret => exact hk .ret m1 t1 s1 a1 w1 h1 h2 h3
  | cond c x y ihx ihy =>
    intro Q t s hco h ds w0 m a w R hR hk
    simp only [codeOk, Bool.and_eq_true] at hco
    have hb : ∀ b, ρof t c = .bool b → a.eval c = .bool b := fun b hb => by
      cases c with
      | tmp i => have := hR.tmps i; simp only at this; rw [hb] at this; show a.tmps.getD i undef = _; generalize a.tmps.getD i undef = u at this; cases this; rfl
      | const v => exact hb
      | global g => simp [ρof] at hb
      | func f => simp [ρof] at hb
    have h : condP (ρof t c) (wpC P nt x Q t s) (wpC P nt y Q t s) := h
    cases hc : ρof t c with
    | bool b =>
      rw [hc] at h
      cases b with
      | true => exact wp_cond_true (hb _ hc) (ihx Q t s hco.1 (h.1 rfl) ds w0 m a w R hR hk)
      | false => exact wp_cond_false (hb _ hc) (ihy Q t s hco.2 (h.2 rfl) ds w0 m a w R hR hk)
    | _ => rw [hc] at h; exact h.elim
  | block id c ih =>
    intro Q t s hc h ds w0 m a w R hR hk
    refine wp_block (ih _ t s hc h ds w0 m a w _ hR fun e m1 t1 s1 a1 w1 h1 h2 h3 => ?_)
    cases e with
    | normal => exact hk .normal m1 t1 s1 a1 w1 h1 h2 h3
    | exit i =>
      have h3 : (if i = id then Q .normal t1 s1 else Q (.exit i) t1 s1) := h3
      show (if i = id then R .normal a1 w1 else R (.exit i) a1 w1)
      split at h3
      · rename_i e; rw [if_pos e]; exact hk .normal m1 t1 s1 a1 w1 h1 h2 h3
      · rename_i e; rw [if_neg e]; exact hk (.exit i) m1 t1 s1 a1 w1 h1 h2 h3
    | ret => exact hk .ret m1 t1 s1 a1 w1 h1 h2 h3
  | loop c ih => intro Q t s _ h; exact h
  | rangeFunc => intro Q t s _ h; exact h.elim
  | exit id => intro Q t s _ h ds w0 m a w R hR hk; exact wp_exit (hk (.exit id) m t s a w (Map.le_refl m) hR h)
  | scope => intro Q t s _ h; exact h.elim
  | label => intro Q t s _ h; exact h.elim
  | goto => intro Q t s _ h; exact h.elim
  | ret => intro Q t s _ h ds w0 m a w R hR hk; exact wp_ret (hk .ret m t s a w (Map.le_refl m) hR h)
  | refuse => intro Q t s _ h; exact h.elim

/-- A loop: what holds at each round's head, and a measure. -/
theorem loopT {nt : Nat} {c : Code} {Q : Ex → PT Value → St → Prop} (I : Nat → PT Value → St → Prop)
    (h : ∀ n t s, I n t s → CodeT P nt c (seqQ (fun t' s' => ∃ k, k < n ∧ I k t' s') Q) t s) : ∀ n t s, I n t s → CodeT P nt (.loop c) Q t s := by
  intro n t s hI ds w0 m a w R hR hk
  refine wp_loop_rounds (n + 1) ?_
  have key : ∀ (N n : Nat) (t : PT Value) (s : St) (m : Map) (a : Act) (w : World), n < N → I n t s → FRel ds w0 m ⟨t, nt, s⟩ a w → (∀ x m' t' s' a' w', m.le m' → FRel ds w0 m' ⟨t', nt, s'⟩ a' w' → Q x t' s' → R (toExit x) a' w') → Code.rounds P c R N a w := by
    intro N
    induction N with
    | zero => intro n t s m a w h; omega
    | succ N ihn =>
      intro n t s m a w hn hI hR hk
      rw [rounds_succ]
      refine h n t s hI ds w0 m a w _ hR fun e m1 t1 s1 a1 w1 h1 h2 h3 => ?_
      cases e with
      | normal =>
        obtain ⟨k, hk1, hk2⟩ := h3
        exact ihn k t1 s1 m1 a1 w1 (by omega) hk2 h2 fun x m2 t2 s2 a2 w2 k1 k2 k3 => hk x m2 t2 s2 a2 w2 (h1.trans k1) k2 k3
      | exit i => exact hk (.exit i) m1 t1 s1 a1 w1 h1 h2 h3
      | ret => exact hk .ret m1 t1 s1 a1 w1 h1 h2 h3
  exact key (n + 1) n t s m a w (Nat.lt_succ_self n) hI hR hk

def resV (P : Program) (rs : List ResultVar) (t : PT Value) (s : St) (K : Value → Prop) : Prop := match resList P ⟨t, 0, s⟩ rs with
  | some [v] => K v
  | some vs => K (.tuple vs.toArray)
  | none => False
def retQ (P : Program) (rs : List ResultVar) (Post : Value → St → Prop) : Ex → PT Value → St → Prop
  | .exit _, _, _ => False
  | .normal, t, s => resV P rs t s fun v => Post v s
  | .ret, t, s => resV P rs t s fun v => Post v s

theorem resList_nt (rs : List ResultVar) (t : PT Value) (nt nt' : Nat) (s : St) : resList P ⟨t, nt, s⟩ rs = resList P ⟨t, nt', s⟩ rs := by
  induction rs with
  | nil => rfl
  | cons r rs ih =>
    unfold resList
    rw [ih]
    cases r <;> rfl

theorem resV_ok {fn : Func} {t : PT Value} {s : St} {K : Value → Prop} (h : resV P fn.results.toList t s K) : ∃ v, resultsE P fn ⟨t, fn.ntmps, s⟩ = some v ∧ K v := by
  unfold resV at h
  unfold resultsE
  rw [resList_nt _ _ _ 0]
  split at h
  · rename_i v hv; rw [hv]; exact ⟨v, rfl, h⟩
  · rename_i vs hne hv
    rw [hv]
    refine ⟨_, ?_, h⟩
    simp only [Option.bind_some]
  · exact h.elim

theorem callT_of {f : FuncId} {fn : Func} {c : Code} (hf : P.funcs[f]? = some fn) (hb : fn.body = some c) (hn : (fn.name == "runtime.NumGoroutine") = false) {args : List Value} {s : St} {Post : Value → St → Prop} (hnt : Nat.ble args.length fn.ntmps = true)
    (h : CodeT P fn.ntmps c (retQ P fn.results.toList Post) (setCells .leaf 0 args) s) : CallT P f args s Post := by
  have hnt := Nat.le_of_ble_eq_true hnt
  refine ⟨⟨fn, hf, hn, by rw [hb]; rfl⟩, fun w0 m w args' hR hG hv => ?_⟩
  have hlen : args.length = args'.size := by simpa using hv.1
  refine calls_of_wp hf hb ?_
  have hF : FRel [] w0 m { t := setCells .leaf 0 args, nt := fn.ntmps, s } { tmps := args' ++ Array.replicate (fn.ntmps - args'.size) undef, defers := [] } w :=
    ⟨hR, hG, args_tmps hv _, by simp; omega, rfl⟩
  refine h [] w0 m _ w _ hF fun x m' t' s' a' w' k1 k2 k3 => ?_
  cases x with
  | exit i => exact k3.elim
  | normal =>
    obtain ⟨v, q1, q2⟩ := resV_ok k3
    obtain ⟨v', q3, q4⟩ := resultsE_sound k2 q1
    exact ⟨k2.defers, v', q3, m', v, v', s', rfl, k1, q4, k2.rel, q2⟩
  | ret =>
    obtain ⟨v, q1, q2⟩ := resV_ok k3
    obtain ⟨v', q3, q4⟩ := resultsE_sound k2 q1
    exact ⟨k2.defers, v', q3, m', v, v', s', rfl, k1, q4, k2.rel, q2⟩

/-- A function by what must hold ahead of its code. -/
theorem callT_wp {f : FuncId} {fn : Func} {c : Code} (hf : P.funcs[f]? = some fn) (hb : fn.body = some c) (hn : (fn.name == "runtime.NumGoroutine") = false) (hco : codeOk fn.ntmps c = true) {args : List Value} {s : St} {Post : Value → St → Prop} (hnt : Nat.ble args.length fn.ntmps = true)
    (h : wpC P fn.ntmps c (retQ P fn.results.toList Post) (setCells .leaf 0 args) s) : CallT P f args s Post :=
  callT_of hf hb hn hnt (wpC_sound c _ _ _ hco h)
end Go.AE
