import Derived.Test.YtkbclhkcceennaaDoorAeDraw
set_option linter.unusedVariables false
/-! The same evaluator, in a form that the kernel runs faster: what hangs on the code alone stands in closures that the kernel makes once, the rest goes by continuations. -/
namespace Go.AE.F
open Go Go.AE
noncomputable section

abbrev A := Option (Value × St)
abbrev KV := Value → A
abbrev KS := Value → St → A

def iteB (b : Bool) (x y : A) : A := Bool.rec (motive := fun _ => A) y x b
def optK {α : Type} (o : Option α) (D : A) (K : α → A) : A := Option.rec (motive := fun _ => A) D K o
def natK (n : Nat) (K : Nat → A) : A := Nat.rec (motive := fun _ => A) (K 0) (fun m _ => K (Nat.succ m)) n

def getG {α : Type} (t : PT α) : Nat → A → (α → A) → A :=
  PT.rec (motive := fun _ => Nat → A → (α → A) → A) (fun _ D _ => D)
    (fun _ v _ il ir n D K => Nat.rec (motive := fun _ => A) (Option.rec (motive := fun _ => A) D K v)
      (fun m _ => Bool.rec (motive := fun _ => A) (ir (Nat.div m 2) D K) (il (Nat.div m 2) D K) (Nat.beq (Nat.mod m 2) 0)) n) t

def pathK {α : Type} (v : Option α) : Nat → Nat → (PT α → A) → A :=
  Nat.rec (motive := fun _ => Nat → (PT α → A) → A) (fun _ K => K .leaf)
    (fun _ ih n K => Nat.rec (motive := fun _ => A) (K (.node .leaf v .leaf))
      (fun m _ => Bool.rec (motive := fun _ => A) (ih (Nat.div m 2) fun r => K (.node .leaf none r)) (ih (Nat.div m 2) fun l => K (.node l none .leaf)) (Nat.beq (Nat.mod m 2) 0)) n)

def setK {α : Type} (v : Option α) (t : PT α) : Nat → (PT α → A) → A :=
  PT.rec (motive := fun _ => Nat → (PT α → A) → A) (fun n K => pathK v (Nat.succ n) n K)
    (fun l x r il ir n K => Nat.rec (motive := fun _ => A) (K (.node l v r))
      (fun m _ => Bool.rec (motive := fun _ => A) (ir (Nat.div m 2) fun r' => K (.node l x r')) (il (Nat.div m 2) fun l' => K (.node l' x r)) (Nat.beq (Nat.mod m 2) 0)) n) t

/-- Getting and setting at a number that stands in the code: a closure a number. -/
structure GT (α : Type) where
  run : A → (α → A) → PT α → A
structure ST (α : Type) where
  run : Option α → PT α → (PT α → A) → A
def getC {α : Type} (f : Nat) : Nat → GT α :=
  Nat.rec (motive := fun _ => Nat → GT α) (fun _ => ⟨fun D _ _ => D⟩)
    (fun _ ih n => Nat.rec (motive := fun _ => GT α) ⟨fun D K t => PT.rec (motive := fun _ => A) D (fun _ v _ _ _ => Option.rec (motive := fun _ => A) D K v) t⟩
      (fun m _ => Bool.rec (motive := fun _ => GT α) ⟨fun D K t => PT.rec (motive := fun _ => A) D (fun _ _ r _ _ => (ih (Nat.div m 2)).run D K r) t⟩
        ⟨fun D K t => PT.rec (motive := fun _ => A) D (fun l _ _ _ _ => (ih (Nat.div m 2)).run D K l) t⟩ (Nat.beq (Nat.mod m 2) 0)) n) f
def setC {α : Type} (f : Nat) : Nat → ST α :=
  Nat.rec (motive := fun _ => Nat → ST α) (fun _ => ⟨fun _ t K => K t⟩)
    (fun _ ih n => Nat.rec (motive := fun _ => ST α) ⟨fun v t K => PT.rec (motive := fun _ => A) (K (.node .leaf v .leaf)) (fun l _ r _ _ => K (.node l v r)) t⟩
      (fun m _ => Bool.rec (motive := fun _ => ST α)
        ⟨fun v t K => PT.rec (motive := fun _ => A) ((ih (Nat.div m 2)).run v .leaf fun r => K (.node .leaf none r)) (fun l x r _ _ => (ih (Nat.div m 2)).run v r fun r' => K (.node l x r')) t⟩
        ⟨fun v t K => PT.rec (motive := fun _ => A) ((ih (Nat.div m 2)).run v .leaf fun l => K (.node l none .leaf)) (fun l x r _ _ => (ih (Nat.div m 2)).run v l fun l' => K (.node l' x r)) t⟩ (Nat.beq (Nat.mod m 2) 0)) n) f
def getP {α : Type} (n : Nat) (D : A) (K : α → A) (t : PT α) : A := (getC (Nat.succ n) n).run D K t
def setP {α : Type} (v : Option α) (n : Nat) (t : PT α) (K : PT α → A) : A := (setC (Nat.succ n) n).run v t K

structure OC where
  run : PT Value → KV → A
def opC (o : Operand) : OC :=
  Operand.rec (motive := fun _ => OC) (fun i => ⟨fun t K => getP i (K undef) K t⟩) (fun v => ⟨fun _ K => K v⟩) (fun g => ⟨fun _ K => K (.pointer (some ⟨2 * g + 1, 0, none⟩))⟩) (fun f => ⟨fun _ K => K (.func (.func f) #[] #[])⟩) o
def opd (o : Operand) (t : PT Value) (K : KV) : A := (opC o).run t K
def opds (l : List Operand) (t : PT Value) : (List Value → A) → A :=
  List.rec (motive := fun _ => (List Value → A) → A) (fun K => K []) (fun o _ ih K => opd o t fun v => ih fun vs => K (v :: vs)) l

structure UC where
  run : Value → PT Value → (PT Value → A) → A
def putC (d : Option Tmp) (nt : Nat) : UC :=
  Option.rec (motive := fun _ => UC) ⟨fun _ t K => K t⟩ (fun d => Bool.rec (motive := fun _ => UC) ⟨fun _ _ _ => none⟩ ⟨fun v t K => setP (some v) d t K⟩ (Nat.blt d nt)) d
def putK (d : Option Tmp) (nt : Nat) (v : Value) (t : PT Value) (K : PT Value → A) : A := (putC d nt).run v t K

/-! A value, looked at: bare recursors, for the kernel's sake. -/
def vInt (v : Value) : Option (IntKind × Nat) := Value.rec (motive_1 := fun _ => Option (IntKind × Nat)) (motive_2 := fun _ => Unit) (motive_3 := fun _ => Unit)
  (fun _ => none) (fun k n => Int.rec (motive := fun _ => Option (IntKind × Nat)) (fun n => some (k, n)) (fun _ => none) n) (fun _ _ => none) (fun _ _ _ => none) (fun _ => none) (fun _ => none) (fun _ _ _ => none) (fun _ => none) (fun _ => none) (fun _ _ _ _ _ => none) none (fun _ _ _ => none) none (fun _ _ => none) (fun _ _ => none) (fun _ _ => ()) () (fun _ _ _ _ => ()) v
def vBool (v : Value) : Option (Bool) := Value.rec (motive_1 := fun _ => Option (Bool)) (motive_2 := fun _ => Unit) (motive_3 := fun _ => Unit)
  (fun b => some b) (fun _ _ => none) (fun _ _ => none) (fun _ _ _ => none) (fun _ => none) (fun _ => none) (fun _ _ _ => none) (fun _ => none) (fun _ => none) (fun _ _ _ _ _ => none) none (fun _ _ _ => none) none (fun _ _ => none) (fun _ _ => none) (fun _ _ => ()) () (fun _ _ _ _ => ()) v
def vPtr (v : Value) : Option (Addr) := Value.rec (motive_1 := fun _ => Option (Addr)) (motive_2 := fun _ => Unit) (motive_3 := fun _ => Unit)
  (fun _ => none) (fun _ _ => none) (fun _ _ => none) (fun _ _ _ => none) (fun _ => none) (fun a => a) (fun _ _ _ => none) (fun _ => none) (fun _ => none) (fun _ _ _ _ _ => none) none (fun _ _ _ => none) none (fun _ _ => none) (fun _ _ => none) (fun _ _ => ()) () (fun _ _ _ _ => ()) v
def vSlice (v : Value) : Option (Addr × Nat × Nat) := Value.rec (motive_1 := fun _ => Option (Addr × Nat × Nat)) (motive_2 := fun _ => Unit) (motive_3 := fun _ => Unit)
  (fun _ => none) (fun _ _ => none) (fun _ _ => none) (fun _ _ _ => none) (fun _ => none) (fun _ => none) (fun a n c => Option.rec (motive := fun _ => Option (Addr × Nat × Nat)) none (fun a => some (a, n, c)) a) (fun _ => none) (fun _ => none) (fun _ _ _ _ _ => none) none (fun _ _ _ => none) none (fun _ _ => none) (fun _ _ => none) (fun _ _ => ()) () (fun _ _ _ _ => ()) v
def vLen (v : Value) : Option (Nat) := Value.rec (motive_1 := fun _ => Option (Nat)) (motive_2 := fun _ => Unit) (motive_3 := fun _ => Unit)
  (fun _ => none) (fun _ _ => none) (fun _ _ => none) (fun _ _ _ => none) (fun _ => none) (fun _ => none) (fun _ n _ => some n) (fun _ => none) (fun _ => none) (fun _ _ _ _ _ => none) none (fun _ _ _ => none) none (fun _ _ => none) (fun _ _ => none) (fun _ _ => ()) () (fun _ _ _ _ => ()) v
def vAgg (v : Value) : Option (List Value) := Value.rec (motive_1 := fun _ => Option (List Value)) (motive_2 := fun _ => Unit) (motive_3 := fun _ => Unit)
  (fun _ => none) (fun _ _ => none) (fun _ _ => none) (fun _ _ _ => none) (fun _ => none) (fun _ => none) (fun _ _ _ => none) (fun _ => none) (fun _ => none) (fun _ _ _ _ _ => none) none (fun _ _ _ => none) none (fun cs _ => some cs.toList) (fun _ _ => none) (fun _ _ => ()) () (fun _ _ _ _ => ()) v
def vTuple (v : Value) : Option (List Value) := Value.rec (motive_1 := fun _ => Option (List Value)) (motive_2 := fun _ => Unit) (motive_3 := fun _ => Unit)
  (fun _ => none) (fun _ _ => none) (fun _ _ => none) (fun _ _ _ => none) (fun _ => none) (fun _ => none) (fun _ _ _ => none) (fun _ => none) (fun _ => none) (fun _ _ _ _ _ => none) none (fun _ _ _ => none) none (fun _ _ => none) (fun cs _ => some cs.toList) (fun _ _ => ()) () (fun _ _ _ _ => ()) v

/-! cells -/
def nthK {α : Type} (l : List α) : Nat → A → (α → A) → A :=
  List.rec (motive := fun _ => Nat → A → (α → A) → A) (fun _ D _ => D) (fun x _ ih n D K => Nat.rec (motive := fun _ => A) (K x) (fun m _ => ih m D K) n) l
def cellK (b : Blk) (i : Nat) (K : KV) : A :=
  iteB (Nat.blt i b.n) (getG b.t i (nthK b.z (Nat.mod i b.z.length) none K) K) none
def cellsK (b : Blk) (n : Nat) : Nat → (List Value → A) → A :=
  Nat.rec (motive := fun _ => Nat → (List Value → A) → A) (fun _ K => K []) (fun _ ih i K => cellK b i fun v => ih (Nat.succ i) fun vs => K (v :: vs)) n
def setCellsK (vs : List Value) : PT Value → Nat → (PT Value → A) → A :=
  List.rec (motive := fun _ => PT Value → Nat → (PT Value → A) → A) (fun t _ K => K t) (fun v _ ih t i K => setK (some v) t i fun t' => ih t' (Nat.succ i) K) vs
def allOne (vs : List Value) : Bool := List.rec (motive := fun _ => Bool) true (fun v _ ih => Bool.rec (motive := fun _ => Bool) false ih (oneCell v)) vs

def ptrK (v : Value) (K : Addr → A) : A := Option.rec (motive := fun _ => A) none K (vPtr v)
def idxK (v : Value) (K : Nat → A) : A := Option.rec (motive := fun _ => A) none (fun p => K p.2) (vInt v)
def cellsOfK (v : Value) (K : List Value → A) : A := Option.rec (motive := fun _ => A) (K [v]) K (vAgg v)

def blkK (s : St) (id : Nat) (K : Blk → A) : A := getG s.h id none K
def storesK (s : St) (a : Addr) (vs : List Value) (K : St → A) : A :=
  St.rec (motive := fun _ => A) (fun h hm nx st => Addr.rec (motive := fun _ => A) (fun bl off _ => getG h bl none fun b => Blk.rec (motive := fun _ => A) (fun n z t elem exact esz strish ro =>
    iteB ro none (iteB (Nat.ble (off + vs.length) n) (iteB (allOne vs) (setCellsK vs t off fun t' => setK (some ⟨n, z, t', elem, exact, esz, strish, ro⟩) h bl fun h' => K ⟨h', hm, nx, st⟩) none) none)) b) a) s
def allocK (s : St) (b : Blk) (K : Nat → St → A) : A :=
  St.rec (motive := fun _ => A) (fun h hm nx st => natK (2 * nx) fun id => natK (nx + st) fun nx' => setK (some b) h id fun h' => K id ⟨h', hm, nx', st⟩) s
def newRowK (s : St) (elem : TypeId) (vs : List Value) (K : KS) : A :=
  iteB (allOne vs) (setCellsK vs .leaf 0 fun t => natK vs.length fun n => allocK s ⟨n, [], t, elem, true, 0, false, false⟩ fun id s' => K (.pointer (some ⟨id, 0, none⟩)) s') none
def addK (a : Addr) (n : Nat) (K : Addr → A) : A :=
  Nat.rec (motive := fun _ => A) (K a) (fun m _ => natK (a.off + Nat.succ m) fun o => K ⟨a.block, o, none⟩) n
def loadK (P : Program) (ty : TypeId) (x : Value) (s : St) (K : KS) : A :=
  ptrK x fun a => optK (isAggT P ty) none fun g => Bool.rec (motive := fun _ => A)
    (blkK s a.block fun b => cellK b a.off fun v => K v s)
    (optK (sizeT P ty) none fun n => blkK s a.block fun b => cellsK b n a.off fun vs => K (.agg vs.toArray) s) g
def storeK (P : Program) (ty : TypeId) (x v : Value) (s : St) (K : KS) : A :=
  ptrK x fun a => optK (sizeT P ty) none fun n => cellsOfK v fun vs => iteB (Nat.beq vs.length n) (storesK s a vs fun s' => K undef s') none
def fieldOf (P : Program) (t : TypeId) (f : Nat) : Option (TypeId × Nat) :=
  (P.underlying t).bind fun d => (structF d).bind fun fs => fs[f]?.bind fun fl => some (fl.type, fl.offset)
def fieldAddrK (P : Program) (t : TypeId) (x : Value) (f : Nat) (s : St) (K : KS) : A :=
  optK (fieldOf P t f) none fun p => Prod.rec (motive := fun _ => A) (fun ft off => ptrK x fun a => optK (sizeT P ft) none fun sz => Nat.rec (motive := fun _ => A) none (fun _ _ => addK a off fun a' => K (.pointer (some a')) s) sz) p
def seqT (P : Program) (t : TypeId) : Option (Option Nat × TypeId) := (P.underlying t).bind fun d => match d with
  | .array n e => some (some n, e)
  | .slice e => some (none, e)
  | _ => none
def indexAddrK (P : Program) (t : TypeId) (x ix : Value) (s : St) (K : KS) : A :=
  idxK ix fun i => optK (seqT P t) none fun p => Prod.rec (motive := fun _ => A) (fun len e => optK (sizeT P e) none fun sz => Option.rec (motive := fun _ => A)
    (Option.rec (motive := fun _ => A) none (fun q => Prod.rec (motive := fun _ => A) (fun a r => Prod.rec (motive := fun _ => A) (fun len _ => iteB (Nat.blt i len) (addK a (i * sz) fun a' => K (.pointer (some a')) s) none) r) q) (vSlice x))
    (fun len => ptrK x fun a => iteB (Nat.blt i len) (addK a (i * sz) fun a' => K (.pointer (some a')) s) none) len) p
def dropL (l : List Value) : Nat → List Value := List.rec (motive := fun _ => Nat → List Value) (fun _ => []) (fun x r ih n => Nat.rec (motive := fun _ => List Value) (x :: r) (fun m _ => ih m) n) l
def takeK (l : List Value) : Nat → (List Value → A) → A :=
  List.rec (motive := fun _ => Nat → (List Value → A) → A) (fun _ K => K []) (fun x _ ih n K => Nat.rec (motive := fun _ => A) (K []) (fun m _ => ih m fun r => K (x :: r)) n) l
def partK (P : Program) (t : TypeId) (cs : List Value) (off : Nat) (K : KV) : A :=
  optK (isAggT P t) none fun g => Bool.rec (motive := fun _ => A) (nthK cs off none K) (optK (sizeT P t) none fun n => takeK (dropL cs off) n fun vs => K (.agg vs.toArray)) g
def aggK (v : Value) (K : List Value → A) : A := Option.rec (motive := fun _ => A) none K (vAgg v)
def fieldK (P : Program) (t : TypeId) (x : Value) (f : Nat) (s : St) (K : KS) : A :=
  optK (fieldOf P t f) none fun p => Prod.rec (motive := fun _ => A) (fun ft off => aggK x fun cs => partK P ft cs off fun v => K v s) p
def extractK (x : Value) (ix : Nat) (s : St) (K : KS) : A := Option.rec (motive := fun _ => A) none (fun vs => nthK vs ix none fun v => K v s) (vTuple x)

/-! numbers -/
def lim (k : IntKind) : Nat := IntKind.rec (motive := fun _ => Nat) 128 32768 2147483648 9223372036854775808 256 65536 4294967296 18446744073709551616 k
def sgn (k : IntKind) : Bool := IntKind.rec (motive := fun _ => Bool) true true true true false false false false k
/-- A number that is not below zero, brought into its kind. -/
def wrapK (k : IntKind) (r : Nat) (K : KV) (D : A) : A :=
  iteB (Nat.blt r (lim k)) (natK r fun n => K (.int k (.ofNat n))) (iteB (sgn k) D (natK (Nat.mod r (lim k)) fun n => K (.int k (.ofNat n))))
def boolK (b : Bool) (K : KV) : A := Bool.rec (motive := fun _ => A) (K (.bool false)) (K (.bool true)) b
/-- Both below their kind's bound. -/
def inK (k : IntKind) (a b : Nat) (x D : A) : A := iteB (Nat.blt a (lim k)) (iteB (Nat.blt b (lim k)) x D) D
structure BC where
  run : IntKind → Nat → Nat → KV → A → A
def fbinC (op : BinOp) : BC := match op with
  | .add => .mk fun k a b K D => wrapK k (Nat.add a b) K D
  | .sub => .mk fun k a b K D => iteB (Nat.ble b a) (wrapK k (Nat.sub a b) K D) D
  | .mul => .mk fun k a b K D => wrapK k (Nat.mul a b) K D
  | .quo => .mk fun k a b K D => Nat.rec (motive := fun _ => A) D (fun _ _ => wrapK k (Nat.div a b) K D) b
  | .rem => .mk fun k a b K D => Nat.rec (motive := fun _ => A) D (fun _ _ => natK (Nat.mod a b) fun n => K (.int k (.ofNat n))) b
  | .and => .mk fun k a b K D => inK k a b (natK (Nat.land a b) fun n => K (.int k (.ofNat n))) D
  | .or => .mk fun k a b K D => inK k a b (natK (Nat.lor a b) fun n => K (.int k (.ofNat n))) D
  | .xor => .mk fun k a b K D => inK k a b (natK (Nat.xor a b) fun n => K (.int k (.ofNat n))) D
  | .andNot => .mk fun k a b K D => D
  | .shl => .mk fun k a b K D => D
  | .shr => .mk fun k a b K D => D
  | .eql => .mk fun k a b K D => boolK (Nat.beq a b) K
  | .neq => .mk fun k a b K D => boolK (Bool.rec true false (Nat.beq a b)) K
  | .lss => .mk fun k a b K D => boolK (Nat.blt a b) K
  | .leq => .mk fun k a b K D => boolK (Nat.ble a b) K
  | .gtr => .mk fun k a b K D => boolK (Nat.blt b a) K
  | .geq => .mk fun k a b K D => boolK (Nat.ble b a) K
def fbin (op : BinOp) (k : IntKind) (a b : Nat) (K : KV) (D : A) : A := (fbinC op).run k a b K D
/-- Shifts: the counts' kind is its own. -/
def fshiftC (op : BinOp) : BC := match op with
  | .shl => .mk fun k a b K D => iteB (Nat.ble b 64) (iteB (Nat.ble b (IntKind.bits k)) (wrapK k (Nat.mul a (Nat.pow 2 b)) K D) D) D
  | .shr => .mk fun k a b K D => iteB (Nat.ble b (IntKind.bits k)) (natK (Nat.div a (Nat.pow 2 b)) fun n => K (.int k (.ofNat n))) D
  | _ => .mk fun k a b K D => D
def fshift (op : BinOp) (k : IntKind) (a b : Nat) (K : KV) (D : A) : A := (fshiftC op).run k a b K D
def isShift : BinOp → Bool
  | .shl | .shr => true
  | _ => false
def kindNo (k : IntKind) : Nat := IntKind.rec (motive := fun _ => Nat) 0 1 2 3 4 5 6 7 k
def sameKind (j k : IntKind) : Bool := Nat.beq (kindNo j) (kindNo k)
def intK (v : Value) (K : IntKind → Nat → A) (D : A) : A := Option.rec (motive := fun _ => A) D (fun p => K p.1 p.2) (vInt v)
def binK (op : BinOp) (x y : Value) (K : KV) (D : A) : A :=
  intK x (fun j a => intK y (fun k b => iteB (isShift op) (fshift op j a b K D) (iteB (sameKind j k) (fbin op j a b K D) D)) D) D
def intT (P : Program) (t : TypeId) : Option IntKind := (P.underlying t).bind fun d => match d with
  | .int k => some k
  | _ => none
def intT2 (P : Program) (src dst : TypeId) : Option IntKind := (P.underlying src).bind fun _ => intT P dst
def convK (P : Program) (src dst : TypeId) (x : Value) (K : KV) (D : A) : A :=
  intK x (fun _ n => optK (intT2 P src dst) D fun k => wrapK k n K D) D
def isNot : UnOp → Bool
  | .not => true
  | _ => false
def notK (op : UnOp) (x : Value) (K : KV) (D : A) : A := iteB (isNot op) (Option.rec (motive := fun _ => A) D (fun b => Bool.rec (motive := fun _ => A) (K (.bool true)) (K (.bool false)) b) (vBool x)) D
def condK (v : Value) (x y : A) : A := Option.rec (motive := fun _ => A) none (fun b => iteB b x y) (vBool v)
def nilK (x : Value) (s : St) (K : KS) : A := Option.rec (motive := fun _ => A) (optK (eNil x s) none fun p => Prod.rec (motive := fun _ => A) (fun v s => K v s) p) (fun _ => K x s) (vPtr x)
def isSliceT (P : Program) (t : TypeId) : Bool := match P.underlying t with
  | some (.slice _) => true
  | _ => false
def lenK (P : Program) (t : TypeId) (x : Value) (K : KV) (D : A) : A := Option.rec (motive := fun _ => A) D (fun n => iteB (isSliceT P t) (K (.int .i64 (.ofNat n))) D) (vLen x)

/-! code -/
structure OpC where
  run : PT Value → St → KS → A
structure RC where
  run : PT Value → St → (PT Value → St → A) → A
structure CC where
  run : PT Value → St → (Ex → PT Value → St → A) → A
structure FC where
  run : List Value → St → KS → A
def OpC.go (c : OpC) (t : PT Value) (s : St) (K : KS) : A := c.run t s K
def RC.go (c : RC) (t : PT Value) (s : St) (K : PT Value → St → A) : A := c.run t s K
def CC.go (c : CC) (t : PT Value) (s : St) (K : Ex → PT Value → St → A) : A := c.run t s K
def FC.go (c : FC) (vs : List Value) (s : St) (K : KS) : A := c.run vs s K

abbrev CF := FuncId → FC
def cfD (cf : CF) : CallF := fun f args s => (cf f).go args s fun v s => some (v, s)

def genK (P : Program) (cf : CF) (o : Oper) (t : PT Value) (s : St) (K : KS) : A :=
  optK (evalAny P (cfD cf) t o s) none fun p => Prod.rec (motive := fun _ => A) (fun v s => K v s) p

def fnK (v : Value) (K : FuncId → List Value → List Value → A) : A := match v with
  | .func (.func g) a b => K g a.toList b.toList
  | _ => none

def compOp0 (P : Program) (cf : CF) (o : Oper) : OpC := match o.op with
  | .move x | .assign x => .mk fun t s K => opd x t fun v => K v s
  | .pick c a b => .mk fun t s K => opd c t fun v => condK v (opd a t fun v => K v s) (opd b t fun v => K v s)
  | .load ty a => .mk fun t s K => opd a t fun v => loadK P ty v s K
  | .store ty a x => .mk fun t s K => opd a t fun v => opd x t fun w => storeK P ty v w s K
  | .alloc elem => .mk fun t s K => optK (uniT P elem) (optK (zeroT P elem) none fun z => newRowK s elem z.cells.toList K) fun n => allocK s (zBlk elem n) fun id s' => K (.pointer (some ⟨id, 0, none⟩)) s'
  | .box elem x => .mk fun t s K => opd x t fun v => cellsOfK v fun vs => newRowK s elem vs K
  | .fieldAddr ty x f => .mk fun t s K => opd x t fun v => fieldAddrK P ty v f s K
  | .indexAddr ty x ix => .mk fun t s K => opd x t fun v => opd ix t fun i => indexAddrK P ty v i s K
  | .nilCheck x => .mk fun t s K => opd x t fun v => nilK v s K
  | .field ty x f => .mk fun t s K => opd x t fun v => fieldK P ty v f s K
  | .extract x ix => .mk fun t s K => opd x t fun v => extractK v ix s K
  | .binOp op ty x y _ => .mk fun t s K => opd x t fun v => opd y t fun w => binK op v w (fun r => K r s) (genK P cf o t s K)
  | .convert src dst x => .mk fun t s K => opd x t fun v => convK P src dst v (fun r => K r s) (genK P cf o t s K)
  | .unOp op _ x => .mk fun t s K => opd x t fun v => notK op v (fun r => K r s) (genK P cf o t s K)
  | .call { callee, args, argTypes } => match callee with
    | .value f => match f with
      | .func g => .mk fun t s K => opds args.toList t fun vs => (cf g).go vs s K
      | f => .mk fun t s K => opd f t fun v => fnK v fun g a b => opds args.toList t fun vs => (cf g).go (a ++ vs ++ b) s K
    | .builtin .len => match argTypes.toList, args.toList with
      | [ty], [x] => .mk fun t s K => opd x t fun v => lenK P ty v (fun r => K r s) (genK P cf o t s K)
      | _, _ => .mk fun t s K => genK P cf o t s K
    | _ => .mk fun t s K => genK P cf o t s K
  | _ => .mk fun t s K => genK P cf o t s K
def compOp (P : Program) (cf : CF) (o : Oper) : OpC := Bool.rec (motive := fun _ => OpC) (.mk fun _ _ _ => none) (compOp0 P cf o) (okOp o)

def compOps (P : Program) (cf : CF) (nt : Nat) (ops : Array Oper) (l : List Oper) : RC :=
  List.rec (motive := fun _ => RC) (.mk fun t s K => K t s)
    (fun o _ ih => Option.rec (motive := fun _ => RC)
      (.mk fun t s K => (compOp P cf o).go t s fun v s' => putK o.dst nt v t fun t' => ih.go t' s' K)
      (fun _ => .mk fun t s K => iteB (Region.wanted o (yieldedE ops t)) ((compOp P cf o).go t s fun v s' => putK o.dst nt v t fun t' => ih.go t' s' K) (putK o.dst nt undef t fun t' => ih.go t' s K)) o.guard) l

def loopK (body : CC) (n : Nat) : PT Value → St → (Ex → PT Value → St → A) → A :=
  Nat.rec (motive := fun _ => PT Value → St → (Ex → PT Value → St → A) → A) (fun _ _ _ => none)
    (fun _ ih t s K => body.go t s fun e t' s' => Ex.rec (motive := fun _ => A) (ih t' s' K) (fun i => K (.exit i) t' s') (K .ret t' s') e) n

def compCode (P : Program) (cf : CF) (dk : Array Oper → RC) (lf nt : Nat) : Code → CC
  | .skip => .mk fun t s K => K .normal t s
  | .region _ ops draw => match draw with
    | false => .mk fun t s K => (compOps P cf nt ops ops.toList).go t s fun t' s' => K .normal t' s'
    | true => .mk fun t s K => (dk ops).go t s fun t' s' => K .normal t' s'
  | .seq a b => .mk fun t s K => (compCode P cf dk lf nt a).go t s fun e t' s' => Ex.rec (motive := fun _ => A) ((compCode P cf dk lf nt b).go t' s' K) (fun i => K (.exit i) t' s') (K .ret t' s') e
  | .cond c a b => .mk fun t s K => opd c t fun v => condK v ((compCode P cf dk lf nt a).go t s K) ((compCode P cf dk lf nt b).go t s K)
  | .block id a => .mk fun t s K => (compCode P cf dk lf nt a).go t s fun e t' s' => Ex.rec (motive := fun _ => A) (K .normal t' s') (fun i => iteB (Nat.beq i id) (K .normal t' s') (K (.exit i) t' s')) (K .ret t' s') e
  | .loop a => .mk fun t s K => loopK (compCode P cf dk lf nt a) lf t s K
  | .exit i => .mk fun t s K => K (.exit i) t s
  | .ret => .mk fun t s K => K .ret t s
  | _ => .mk fun _ _ _ => none

def resOneK (P : Program) (t : PT Value) (s : St) (r : ResultVar) (K : KV) : A := match r with
  | .tmp i => getP i (K undef) K t
  | .cell i ty => getG t i none fun v => loadK P ty v s fun v _ => K v
def resListK (P : Program) (t : PT Value) (s : St) (l : List ResultVar) : (List Value → A) → A :=
  List.rec (motive := fun _ => (List Value → A) → A) (fun K => K []) (fun r _ ih K => resOneK P t s r fun v => ih fun vs => K (v :: vs)) l
def resK (P : Program) (l : List ResultVar) (t : PT Value) (s : St) (K : KV) : A := match l with
  | [r] => resOneK P t s r K
  | l => resListK P t s l fun vs => K (.tuple vs.toArray)

/-- A region that draws, by whatever 'df' says. -/
def plainD (df : CallF → DrawF) (cf : CF) (nt : Nat) (ops : Array Oper) : RC := .mk fun t s K => optK (df (cfD cf) ops ⟨t, nt, s⟩) none fun f => FS.rec (motive := fun _ => A) (fun t' _ s' => K t' s') f

def fnC (P : Program) (X : ExtF) (dk : CF → Nat → Array Oper → RC) (lf : Nat) : Nat → CF :=
  Nat.rec (motive := fun _ => CF) (fun _ => .mk fun _ _ _ => none)
    (fun _ cf f => match X f with
      | some g => .mk fun args s K => optK (g args s) none fun p => Prod.rec (motive := fun _ => A) (fun v s => K v s) p
      | none => match P.funcs[f]? with
        | some fn => match fn.body with
          | some c => Bool.rec (motive := fun _ => FC) (.mk fun args s K => iteB (Nat.ble args.length fn.ntmps)
              (setCellsK args .leaf 0 fun t => (compCode P cf (dk cf fn.ntmps) lf fn.ntmps c).go t s fun e t' s' =>
                Ex.rec (motive := fun _ => A) (resK P fn.results.toList t' s' fun v => K v s') (fun _ => none) (resK P fn.results.toList t' s' fun v => K v s') e) none)
              (.mk fun _ _ _ => none) (fn.name == "runtime.NumGoroutine")
          | none => .mk fun _ _ _ => none
        | none => .mk fun _ _ _ => none)

end
end Go.AE.F
