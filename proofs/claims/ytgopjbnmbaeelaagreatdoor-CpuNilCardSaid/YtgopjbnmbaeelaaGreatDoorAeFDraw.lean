import Derived.Test.YtgopjbnmbaeelaaGreatDoorAeFastG
set_option linter.unusedVariables false
/-! Regions that draw, for the fast evaluator: only the loud ones, the makers and the readers are kept. -/
namespace Go.AE.F
open Go Go.AE
noncomputable section

abbrev LL := List (Nat × PT Blk × PM)
abbrev ML := List (Nat × Blk)
structure Rd where
  o : Oper
  i : Nat
  j : Nat
  v : Value
  t : PT Value
structure Dy where
  L : LL
  M : ML
  R : List Rd
  e : Nat
  h : PT Blk
  hm : PM
  j : Nat

def anyL (p : Nat → Bool) (L : LL) : Bool := List.rec (motive := fun _ => Bool) false (fun c _ ih => Bool.rec (motive := fun _ => Bool) ih true (p c.1)) L
/-- What was made, laid into a heap. -/
def viewM (s : St) (put : Nat → Bool) (M : ML) : PT Blk → (PT Blk → A) → A :=
  List.rec (motive := fun _ => PT Blk → (PT Blk → A) → A) (fun h K => K h)
    (fun m _ ih h K => Prod.rec (motive := fun _ => A) (fun i b => iteB (put i) (natK (2 * (s.nx + s.st * i)) fun id => setK (some b) h id fun h' => ih h' K) (ih h K)) m) M
def andB (a b : Bool) : Bool := Bool.rec (motive := fun _ => Bool) false b a
def notB (a : Bool) : Bool := Bool.rec (motive := fun _ => Bool) true false a
def putNow (ops : Array Oper) (mask : Nat → Bool) (L : LL) (i : Nat) : Bool := andB (mask i) (notB (anyL (fun c => anc ops c i) L))

structure DC where
  run : St → PT Value → Dy → (PT Value → Dy → A) → A
def DC.go (c : DC) (s : St) (t : PT Value) (d : Dy) (K : PT Value → Dy → A) : A := c.run s t d K

def loudD (P : Program) (cf : CF) (nt : Nat) (ops : Array Oper) (o : Oper) (i : Nat) : DC := .mk fun s t d K =>
  Dy.rec (motive := fun _ => A) (fun L M R e h hm j => viewM s (putNow ops (anc ops i) L) M h fun h' => natK (s.nx + s.st * i) fun nx => natK (s.st * (ops.size + 1)) fun sn =>
    (compOp P cf o).go t ⟨h', hm, nx, sn⟩ fun v s' => St.rec (motive := fun _ => A) (fun h2 hm2 nx2 st2 => iteB (Nat.beq st2 sn) (iteB (Nat.ble nx nx2) (iteB (Nat.beq (Nat.mod (nx2 - nx) sn) 0)
      (putK o.dst nt v t fun t' => natK (Nat.max e nx2) fun e' => K t' ⟨L ++ [(i, h2, hm2)], M, R, e', h2, hm2, Nat.succ j⟩) none) none) none) s') d
def readD (P : Program) (cf : CF) (nt : Nat) (ops : Array Oper) (o : Oper) (i : Nat) : DC := .mk fun s t d K =>
  Dy.rec (motive := fun _ => A) (fun L M R e h hm j => viewM s (putNow ops (anc ops i) L) M h fun h' => natK (s.nx + s.st * i) fun nx =>
    (compOp P cf o).go t ⟨h', hm, nx, s.st * (ops.size + 1)⟩ fun v s' => St.rec (motive := fun _ => A) (fun _ _ nx2 _ => iteB (Nat.beq nx2 nx)
      (putK o.dst nt v t fun t' => natK (Nat.max e nx) fun e' => K t' ⟨L, M, R ++ [⟨o, i, j, v, t⟩], e', h, hm, j⟩) none) s') d
def pureD (P : Program) (cf : CF) (nt : Nat) (ops : Array Oper) (o : Oper) (i : Nat) : DC := .mk fun s t d K =>
  Dy.rec (motive := fun _ => A) (fun L M R e h hm j => natK (s.nx + s.st * i) fun nx => natK (s.st * (ops.size + 1)) fun sn =>
    (compOp P cf o).go t ⟨.leaf, .leaf, nx, sn⟩ fun v s' => St.rec (motive := fun _ => A) (fun h2 _ nx2 st2 => iteB (Nat.beq st2 sn) (iteB (Nat.ble nx nx2) (iteB (Nat.beq (Nat.mod (nx2 - nx) sn) 0)
      (putK o.dst nt v t fun t' => natK (Nat.max e nx2) fun e' => getG h2 (2 * nx) (K t' ⟨L, M, R, e', h, hm, j⟩) fun b => K t' ⟨L, M ++ [(i, b)], R, e', h, hm, j⟩) none) none) none) s') d
def skipD (nt : Nat) (o : Oper) (i : Nat) : DC := .mk fun s t d K =>
  Dy.rec (motive := fun _ => A) (fun L M R e h hm j => putK o.dst nt undef t fun t' => natK (Nat.max e (s.nx + s.st * i)) fun e' => K t' ⟨L, M, R, e', h, hm, j⟩) d

def bodyD (P : Program) (cf : CF) (nt : Nat) (ops : Array Oper) (o : Oper) (i : Nat) : DC :=
  Bool.rec (motive := fun _ => DC) (Bool.rec (motive := fun _ => DC) (pureD P cf nt ops o i) (readD P cf nt ops o i) (isReader P o.op)) (loudD P cf nt ops o i) (isLoud P o.op)
def opD (P : Program) (cf : CF) (nt : Nat) (ops : Array Oper) (o : Oper) (i : Nat) : DC :=
  Option.rec (motive := fun _ => DC) (bodyD P cf nt ops o i)
    (fun _ => .mk fun s t d K => iteB (Region.wanted o (yieldedE ops t)) ((bodyD P cf nt ops o i).go s t d K) ((skipD nt o i).go s t d K)) o.guard
def opsD (P : Program) (cf : CF) (nt : Nat) (ops : Array Oper) (l : List Oper) : Nat → DC :=
  List.rec (motive := fun _ => Nat → DC) (fun _ => .mk fun s t d K => K t d)
    (fun o _ ih i => .mk fun s t d K => (opD P cf nt ops o i).go s t d fun t' d' => (ih (Nat.succ i)).go s t' d' K) l

def allB {α : Type} (p : α → Bool) (l : List α) : Bool := List.rec (motive := fun _ => Bool) true (fun x _ ih => Bool.rec (motive := fun _ => Bool) false ih (p x)) l
/-- Every place up to 'j'. -/
def allTo (p : Nat → Bool) (j : Nat) : Bool := Nat.rec (motive := fun _ => Bool) (p 0) (fun m ih => andB ih (p (Nat.succ m))) j
/-- The heap behind the first 'j' loud ones. -/
def atL (s : St) (L : LL) (j : Nat) : PT Blk × PM := Nat.rec (motive := fun _ => PT Blk × PM) (s.h, s.hm) (fun m _ => match L[m]? with | some c => c.2 | none => (s.h, s.hm)) j
def mayL (ops : Array Oper) (i j : Nat) (L : LL) : Nat → Bool :=
  List.rec (motive := fun _ => Nat → Bool) (fun _ => true)
    (fun c _ ih k => andB (andB (Bool.rec (motive := fun _ => Bool) true (Nat.blt k j) (anc ops i c.1)) (Bool.rec (motive := fun _ => Bool) true (Nat.ble j k) (anc ops c.1 i))) (ih (Nat.succ k))) L
def okAt (P : Program) (cf : CF) (s : St) (ops : Array Oper) (L : LL) (M : ML) (r : Rd) (j : Nat) : Bool :=
  Bool.rec (motive := fun _ => Bool) (Bool.rec (motive := fun _ => Bool) true
    ((viewM s (putNow ops (anc ops r.i) (L.take j)) M (atL s L j).1 fun h' => (compOp P cf r.o).go r.t ⟨h', (atL s L j).2, s.nx + s.st * r.i, s.st * (ops.size + 1)⟩ fun v s' =>
      iteB (andB (veq 8 v r.v) (Nat.beq s'.nx (s.nx + s.st * r.i))) (some (v, s')) none).isSome)
    (mayL ops r.i j L 0)) true (Nat.beq j r.j)
def rdOkK (P : Program) (cf : CF) (s : St) (ops : Array Oper) (L : LL) (M : ML) (R : List Rd) (J : Nat) : Bool := allB (fun r => allTo (okAt P cf s ops L M r) J) R
def mkOkK (s : St) (ops : Array Oper) (L : LL) (M : ML) (J : Nat) : Bool :=
  allB (fun m : Nat × Blk => allTo (fun j => Bool.rec (motive := fun _ => Bool) ((atL s L j).1.get (2 * (s.nx + s.st * m.1))).isNone true (anyL (fun c => anc ops c m.1) (L.take j))) J) M

def drawK (P : Program) (cf : CF) (nt : Nat) (ops : Array Oper) : RC :=
  Bool.rec (motive := fun _ => RC) (.mk fun _ _ _ => none)
    (.mk fun t s K => (opsD P cf nt ops ops.toList 0).go s t (St.rec (motive := fun _ => Dy) (fun h hm nx _ => ⟨[], [], [], nx, h, hm, 0⟩) s) fun t' d =>
      Dy.rec (motive := fun _ => A) (fun L M R e h hm j => iteB (rdOkK P cf s ops L M R j) (iteB (mkOkK s ops L M j) (viewM s (putNow ops (fun _ => true) L) M h fun h' => K t' ⟨h', hm, e, s.st⟩) none) none) d)
    (dOk P ops)

end
end Go.AE.F
