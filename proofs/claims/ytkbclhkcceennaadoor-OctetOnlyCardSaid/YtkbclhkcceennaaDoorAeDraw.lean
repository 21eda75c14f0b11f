import Derived.Test.YtkbclhkcceennaaDoorAeEval
import Derived.Orders
set_option linter.unusedVariables false
namespace Go.AE
open Go

/-! ### A region that draws its order: the evaluator

The loud operations (those that may change what lay there) stand in one order, whatever is drawn. The others look at no memory (they are
evaluated over an empty heap) or only read it (they are evaluated at every place in the loud ones' order at which they may come up). -/

def isLoud (P : Program) : Op → Bool
  | .store .. | .mapUpdate .. | .insert .. | .makeMap .. => true
  | .call { callee := .value _, .. } => true
  | .call { callee := .builtin bi, .. } => match bi with
    | .len | .max | .min => false
    | _ => true
  | .convert src dst _ => match P.underlying src, P.underlying dst with
    | some (.slice _), some (.slice _) => true
    | _, _ => false
  | _ => false
def isReader (P : Program) : Op → Bool
  | .load .. | .lookup .. | .slice .. => true
  | .convert src _ _ => match P.underlying src with
    | some (.slice _) => true
    | _ => false
  | _ => false

/-- The masks of what stands before, operation by operation. -/
def edgeMask (ms : List Nat) (es : List Edge) : Nat := es.foldl (fun s e => cond (Region.binds .any e) (s ||| (2 ^ e.on ||| ms.getD e.on 0)) s) 0
def masksF : List Oper → List Nat → List Nat
  | [], ms => ms
  | o :: r, ms => masksF r (ms ++ [edgeMask ms o.after.toList])
def masks (ops : Array Oper) : List Nat := masksF ops.toList []
def anc (ops : Array Oper) (i f : Nat) : Bool := ((masks ops).getD i 0).testBit f

def allBelow (n : Nat) (p : Nat → Bool) : Bool := (List.range n).all p

/-- What the operations' edges must tell: all lead back; two loud ones stand in an order; whoever names a temporary that another one writes stands in an order with it; no two write the same one. -/
def dOk (P : Program) (ops : Array Oper) : Bool :=
  let l := ops.toList.zipIdx
  l.all (fun x => x.1.after.toList.all fun e => !Region.binds .any e || Nat.blt e.on x.2) &&
  l.all (fun x => !isLoud P x.1.op || l.all fun y => !(isLoud P y.1.op && Nat.blt y.2 x.2) || anc ops x.2 y.2) &&
  l.all (fun x => (x.1.looksAt ops).all fun d => l.all fun y => !(y.1.dst == some d) || anc ops x.2 y.2 || anc ops y.2 x.2) &&
  l.all (fun x => match x.1.dst with
    | none => true
    | some d => l.all fun y => Nat.beq x.2 y.2 || !(y.1.dst == some d)) &&
  l.all (fun x => match x.1.op with | .select .. => false | _ => true)

abbrev PM := PT (Array MapEntry × Nat)
structure Rec where
  o : Oper
  i : Nat
  w : Bool
  ld : Bool
  rd : Bool
  j : Nat
  v : Value
  t : PT Value
  b : Option Blk
  e : Nat
  h : PT Blk
  hm : PM
def Rec.lw (r : Rec) : Bool := r.ld && r.w

def heapAt (s : St) : List Rec → Nat → PT Blk × PM
  | [], _ => (s.h, s.hm)
  | r :: rs, j => cond (r.lw && Nat.beq (r.j + 1) j) (r.h, r.hm) (heapAt s rs j)
def insd (ops : Array Oper) (rs : List Rec) (j f : Nat) : Bool := rs.any fun r => r.lw && Nat.blt r.j j && anc ops r.i f
def viewF (s : St) (ins mask : Nat → Bool) : List Rec → PT Blk → PT Blk
  | [], h => h
  | r :: rs, h => match r.b with
    | some b => viewF s ins mask rs (cond (mask r.i && !ins r.i) (h.set (2 * (s.nx + s.st * r.i)) (some b)) h)
    | none => viewF s ins mask rs h
def view (s : St) (ops : Array Oper) (rs : List Rec) (mask : Nat → Bool) (j : Nat) : PT Blk := viewF s (insd ops rs j) mask rs (heapAt s rs j).1

def nLoud (rs : List Rec) : Nat := (rs.filter (·.lw)).length

/-- One operation, behind those of 'rs'. -/
def recOf (P : Program) (cf : CallF) (s : St) (ops : Array Oper) (rs : List Rec) (i : Nat) (o : Oper) (t : PT Value) : Option Rec :=
  let n1 := ops.size + 1
  let nx := s.nx + s.st * i
  let sn := s.st * n1
  let j := nLoud rs
  match Region.wanted o (yieldedE ops t) with
  | false => some { o, i, w := false, ld := isLoud P o.op, rd := isReader P o.op, j, v := undef, t, b := none, e := nx, h := .leaf, hm := .leaf }
  | true =>
    match isLoud P o.op, isReader P o.op with
    | true, rd =>
      (evalAny P cf t o { h := view s ops rs (anc ops i) j, hm := (heapAt s rs j).2, nx, st := sn }).bind fun p =>
        (ck (Nat.beq p.2.st sn && Nat.ble nx p.2.nx && Nat.beq (Nat.mod (p.2.nx - nx) sn) 0)).bind fun _ =>
          some { o, i, w := true, ld := true, rd, j, v := p.1, t, b := none, e := p.2.nx, h := p.2.h, hm := p.2.hm }
    | false, true =>
      (evalAny P cf t o { h := view s ops rs (anc ops i) j, hm := (heapAt s rs j).2, nx, st := sn }).bind fun p =>
        (ck (Nat.beq p.2.nx nx)).bind fun _ =>
          some { o, i, w := true, ld := false, rd := true, j, v := p.1, t, b := none, e := nx, h := .leaf, hm := .leaf }
    | false, false =>
      (evalAny P cf t o { h := .leaf, hm := .leaf, nx, st := sn }).bind fun p =>
        (ck (Nat.beq p.2.st sn && Nat.ble nx p.2.nx && Nat.beq (Nat.mod (p.2.nx - nx) sn) 0)).bind fun _ =>
          some { o, i, w := true, ld := false, rd := false, j, v := p.1, t, b := p.2.h.get (2 * nx), e := p.2.nx, h := .leaf, hm := .leaf }

def recsOf (P : Program) (cf : CallF) (s : St) (ops : Array Oper) : List Oper → List Rec → FS → Option (List Rec × FS)
  | [], rs, f => some (rs, f)
  | o :: l, rs, f =>
    (recOf P cf s ops rs rs.length o f.t).bind fun r => (putT f o.dst r.v f.s).bind fun f' => recsOf P cf s ops l (rs ++ [r]) f'

def veq : Nat → Value → Value → Bool
  | 0, _, _ => false
  | _ + 1, .bool a, .bool b => a == b
  | _ + 1, .int j a, .int k b => decide (j = k) && decide (a = b)
  | _ + 1, .string a, .string b => decide (a.data.toList = b.data.toList)
  | _ + 1, .pointer a, .pointer b => decide (a = b)
  | _ + 1, .slice a n c, .slice b n' c' => decide (a = b) && Nat.beq n n' && Nat.beq c c'
  | _ + 1, .map a, .map b => decide (a = b)
  | n + 1, .agg a, .agg b => veqL n a.toList b.toList
  | n + 1, .tuple a, .tuple b => veqL n a.toList b.toList
  | n + 1, .iface t a, .iface u b => Nat.beq t u && veq n a b
  | n + 1, .func f a b, .func g c d => decide (f = g) && veqL n a.toList c.toList && veqL n b.toList d.toList
  | _ + 1, .nilFunc, .nilFunc => true
  | _ + 1, .nilIface, .nilIface => true
  | _ + 1, _, _ => false
where
  veqL (n : Nat) : List Value → List Value → Bool
    | [], [] => true
    | a :: l, b :: l' => veq n a b && veqL n l l'
    | _, _ => false

/-- Which places in the loud ones' order a reader may come up at. -/
def mayAt (ops : Array Oper) (rs : List Rec) (i j : Nat) : Bool := rs.all fun c => !c.lw || ((!anc ops i c.i || Nat.blt c.j j) && (!anc ops c.i i || Nat.ble j c.j))

def rdOk (P : Program) (cf : CallF) (s : St) (ops : Array Oper) (rs : List Rec) (J : Nat) : Bool :=
  rs.all fun r => !(r.w && r.rd && !r.ld) || (List.range (J + 1)).all fun j => Nat.beq j r.j || !mayAt ops rs r.i j ||
    (match evalAny P cf r.t r.o { h := view s ops rs (anc ops r.i) j, hm := (heapAt s rs j).2, nx := s.nx + s.st * r.i, st := s.st * (ops.size + 1) } with
     | some p => veq 8 p.1 r.v && Nat.beq p.2.nx (s.nx + s.st * r.i)
     | none => false)
/-- What was made lies in no heap of the loud ones before one of them has taken it in. -/
def mkOk (s : St) (ops : Array Oper) (rs : List Rec) (J : Nat) : Bool :=
  rs.all fun r => !r.b.isSome || (List.range (J + 1)).all fun j => insd ops rs j r.i || ((heapAt s rs j).1.get (2 * (s.nx + s.st * r.i))).isNone

def drawE (P : Program) (cf : CallF) : DrawF := fun ops f =>
  (ck (dOk P ops)).bind fun _ => (recsOf P cf f.s ops ops.toList [] f).bind fun p =>
    let J := nLoud p.1
    (ck (rdOk P cf f.s ops p.1 J && mkOk f.s ops p.1 J)).bind fun _ =>
      some { t := p.2.t, nt := p.2.nt, s := { h := view f.s ops p.1 (fun _ => true) J, hm := (heapAt f.s p.1 J).2, nx := p.1.foldl (fun a r => Nat.max a r.e) f.s.nx, st := f.s.st } }

end Go.AE
