import GoSem.Step
set_option linter.unusedVariables false
namespace Go.AE
open Go

inductive PT (α : Type) where
  | leaf
  | node (l : PT α) (v : Option α) (r : PT α)

namespace PT
variable {α : Type}
def get : PT α → Nat → Option α
  | leaf, _ => none
  | node l v r, k => cond (Nat.beq k 0) v (cond (Nat.beq (Nat.mod k 2) 1) (get l (Nat.div k 2)) (get r (Nat.pred (Nat.div k 2))))
def setF : Nat → PT α → Nat → Option α → PT α
  | 0, t, _, _ => t
  | f + 1, leaf, k, v => cond (Nat.beq k 0) (node leaf v leaf) (cond (Nat.beq (Nat.mod k 2) 1) (node (setF f leaf (Nat.div k 2) v) none leaf) (node leaf none (setF f leaf (Nat.pred (Nat.div k 2)) v)))
  | f + 1, node l x r, k, v => cond (Nat.beq k 0) (node l v r) (cond (Nat.beq (Nat.mod k 2) 1) (node (setF f l (Nat.div k 2) v) x r) (node l x (setF f r (Nat.pred (Nat.div k 2)) v)))
def set (t : PT α) (k : Nat) (v : Option α) : PT α := setF (k + 1) t k v
end PT

/-- A block of cells: 'z' is what a cell holds that was never written (place by place, again and again). -/
structure Blk where
  n : Nat
  z : List Value
  t : PT Value
  elem : TypeId
  exact : Bool
  esz : Nat
  strish : Bool
  ro : Bool

def Blk.cell (b : Blk) (i : Nat) : Option Value :=
  match Nat.blt i b.n with
  | false => none
  | true => match b.t.get i with
    | some v => some v
    | none => b.z[Nat.mod i b.z.length]?

structure St where
  h : PT Blk
  hm : PT (Array MapEntry × Nat)
  nx : Nat
  st : Nat

def ck (b : Bool) : Option Unit := cond b (some ()) none

def St.alloc (s : St) (b : Blk) : Option (Nat × St) :=
  some (2 * s.nx, { s with h := s.h.set (2 * s.nx) (some b), nx := s.nx + s.st })

def Blk.cells (b : Blk) (i : Nat) : Nat → Option (List Value)
  | 0 => some []
  | n + 1 => (b.cell i).bind fun v => (b.cells (i + 1) n).bind fun vs => some (v :: vs)

def St.load (s : St) (a : Addr) : Option Value := (s.h.get a.block).bind fun b => b.cell a.off
def St.loads (s : St) (a : Addr) (n : Nat) : Option (List Value) := (s.h.get a.block).bind fun b => b.cells a.off n

def setCells (t : PT Value) (i : Nat) : List Value → PT Value
  | [] => t
  | v :: vs => setCells (t.set i (some v)) (i + 1) vs

def oneCell : Value → Bool
  | .agg _ | .tuple _ => false
  | _ => true

def St.stores (s : St) (a : Addr) (vs : List Value) : Option St :=
  (s.h.get a.block).bind fun b => (ck (!b.ro && Nat.ble (a.off + vs.length) b.n && vs.all oneCell)).bind fun _ =>
    some { s with h := s.h.set a.block (some { b with t := setCells b.t a.off vs }) }

def pureEval (P : Program) {α : Type} : Sem α → Option α
  | .pure a => some a
  | .program k => pureEval P (k P)
  | .mark _ k => pureEval P k
  | _ => none

def plain : Nat → Value → Bool
  | 0, _ => false
  | _ + 1, .bool _ | _ + 1, .int _ _ | _ + 1, .float _ _ | _ + 1, .complex _ _ _ | _ + 1, .string _ | _ + 1, .pointer none
  | _ + 1, .slice none _ _ | _ + 1, .map none | _ + 1, .chan none | _ + 1, .nilFunc | _ + 1, .nilIface => true
  | n + 1, .iface _ v => plain n v
  | n + 1, .agg cs => cs.toList.all (plain n)
  | n + 1, .tuple cs => cs.toList.all (plain n)
  | n + 1, .func _ a b => a.toList.all (plain n) && b.toList.all (plain n)
  | _ + 1, _ => false

def isAggT (P : Program) (t : TypeId) : Option Bool :=
  match P.underlying t with
  | some (.struct _) => some true
  | some (.array _ _) => some true
  | some _ => some false
  | none => none
def sizeT (P : Program) (t : TypeId) : Option Nat := (P.info? t).bind fun i => some i.size
def zeroT (P : Program) (t : TypeId) : Option Value := (P.info? t).bind fun i => i.zero.bind fun z => (ck (plain 8 z && z.cells.toList.all oneCell)).bind fun _ => some z
def asPtr : Value → Option Addr
  | .pointer (some a) => some a
  | _ => none
def asIdx : Value → Option Nat
  | .int _ (.ofNat n) => some n
  | _ => none
def structF : TypeDesc → Option (Array Field)
  | .struct fs => some fs
  | _ => none
def sliceE : TypeDesc → Option TypeId
  | .slice e => some e
  | _ => none

def rowBlk (elem : TypeId) (vs : List Value) : Blk := { n := vs.length, z := [], t := setCells .leaf 0 vs, elem, exact := true, esz := 0, strish := false, ro := false }
def grownBlk (elem : TypeId) (sz : Nat) (strish : Bool) (vs : List Value) : Blk := { n := vs.length, z := [], t := setCells .leaf 0 vs, elem, exact := false, esz := sz, strish, ro := false }

def eNewRow (s : St) (elem : TypeId) (vs : List Value) : Option (Value × St) :=
  (ck (vs.all oneCell)).bind fun _ => (s.alloc (rowBlk elem vs)).bind fun p => some (.pointer (some ⟨p.1, 0, none⟩), p.2)

def isU8z : Value → Bool
  | .int .u8 (.ofNat 0) => true
  | _ => false
def allU8 : List Value → Nat → Bool
  | [], n => Nat.beq n 0
  | v :: l, n => match isU8z v, n with
    | true, n + 1 => allU8 l n
    | _, _ => false
/-- A great array of bytes: how many. -/
def uniT (P : Program) (t : TypeId) : Option Nat := (P.underlying t).bind fun d => match d with
  | .array n _ => (ck (Nat.blt 64 n)).bind fun _ => (P.info? t).bind fun i => i.zero.bind fun z => (ck (allU8 z.cells.toList n)).bind fun _ => some n
  | _ => none
def zBlk (elem : TypeId) (n : Nat) : Blk := { n, z := [.int .u8 0], t := .leaf, elem, exact := true, esz := 0, strish := false, ro := false }
def eAllocU (elem : TypeId) (n : Nat) (s : St) : Option (Value × St) := (s.alloc (zBlk elem n)).bind fun p => some (.pointer (some ⟨p.1, 0, none⟩), p.2)
def eAlloc (P : Program) (elem : TypeId) (s : St) : Option (Value × St) := match uniT P elem with
  | some n => eAllocU elem n s
  | none => (zeroT P elem).bind fun z => eNewRow s elem z.cells.toList
def eBox (elem : TypeId) (v : Value) (s : St) : Option (Value × St) := eNewRow s elem v.cells.toList
def eLoad (P : Program) (t : TypeId) (x : Value) (s : St) : Option (Value × St) :=
  (asPtr x).bind fun a => (isAggT P t).bind fun g =>
    match g with
    | false => (s.load a).bind fun v => some (v, s)
    | true => (sizeT P t).bind fun n => (s.loads a n).bind fun vs => some (.agg vs.toArray, s)
def eStore (P : Program) (t : TypeId) (x v : Value) (s : St) : Option (Value × St) :=
  (asPtr x).bind fun a => (sizeT P t).bind fun n => (ck (Nat.beq v.cells.toList.length n)).bind fun _ => (s.stores a v.cells.toList).bind fun s' => some (undef, s')
def eNil (x : Value) (s : St) : Option (Value × St) :=
  match x with
  | .pointer (some a) => some (.pointer (some a), s)
  | .func (.func f) a b => some (.func (.func f) a b, s)
  | _ => none
def eFieldAddr (P : Program) (t : TypeId) (x : Value) (f : Nat) (s : St) : Option (Value × St) :=
  (P.underlying t).bind fun d => (structF d).bind fun fs => fs[f]?.bind fun fl => (asPtr x).bind fun a => (sizeT P fl.type).bind fun sz =>
    (ck (!Nat.beq sz 0)).bind fun _ => some (.pointer (some (a.add fl.offset)), s)
def eIndexAddr (P : Program) (t : TypeId) (x ix : Value) (s : St) : Option (Value × St) :=
  (asIdx ix).bind fun i => (P.underlying t).bind fun d =>
    match d, x with
    | .array len e, .pointer (some a) => (sizeT P e).bind fun sz => (ck (Nat.blt i len)).bind fun _ => some (.pointer (some (a.add (i * sz))), s)
    | .slice e, .slice (some a) len _ => (sizeT P e).bind fun sz => (ck (Nat.blt i len)).bind fun _ => some (.pointer (some (a.add (i * sz))), s)
    | _, _ => none
def ePart (P : Program) (t : TypeId) (cs : Array Value) (off : Nat) : Option Value :=
  (isAggT P t).bind fun g =>
    match g with
    | false => cs[off]?
    | true => (sizeT P t).bind fun n => some (.agg (cs.extract off (off + n)))
def eField (P : Program) (t : TypeId) (x : Value) (f : Nat) (s : St) : Option (Value × St) :=
  (P.underlying t).bind fun d => (structF d).bind fun fs => fs[f]?.bind fun fl =>
    match x with
    | .agg cs => (ePart P fl.type cs fl.offset).bind fun v => some (v, s)
    | _ => none
def eIndex (P : Program) (t : TypeId) (x ix : Value) (s : St) : Option (Value × St) :=
  (asIdx ix).bind fun i => (P.underlying t).bind fun d =>
    match d, x with
    | .array len e, .agg cs => (sizeT P e).bind fun sz => (ck (Nat.blt i len)).bind fun _ => (ePart P e cs (i * sz)).bind fun v => some (v, s)
    | _, .string b => b[i]?.bind fun c => (match d with | .string => some (.int .u8 c.toNat, s) | _ => none)
    | _, _ => none
def eExtract (x : Value) (ix : Nat) (s : St) : Option (Value × St) :=
  match x with
  | .tuple vs => vs[ix]?.bind fun v => some (v, s)
  | _ => none
def placesT (P : Program) (fields : Array Field) : Option (Array (Nat × Nat)) := pureEval P (fields.mapM fun f => do pure (f.offset, ← sizeOf f.type))
def eBuild (P : Program) (t : TypeId) (parts : List (Nat × Value)) (s : St) : Option (Value × St) :=
  (zeroT P t).bind fun z => (P.underlying t).bind fun d =>
    match d with
    | .struct fields => (placesT P fields).bind fun pl => (Instr.fill (pl[·]?) z.cells parts).bind fun cs => some (.agg cs, s)
    | .array _ e => (sizeT P e).bind fun sz => (Instr.fill (fun i => some (i * sz, sz)) z.cells parts).bind fun cs => some (.agg cs, s)
    | _ => none
def eBuildSlice (P : Program) (t : TypeId) (len : Nat) (parts : List (Nat × Value)) (s : St) : Option (Value × St) :=
  (P.underlying t).bind fun d => (sliceE d).bind fun e => (sizeT P e).bind fun sz => (ck (Nat.ble (len * sz) 65536 && !Nat.beq sz 0)).bind fun _ => (zeroT P e).bind fun z =>
    (Instr.fill (fun i => some (i * sz, sz)) ((Array.range (len * sz)).map (z.cells[· % z.cells.size]!)) parts).bind fun cs => (ck (cs.toList.all oneCell)).bind fun _ =>
      (s.alloc (rowBlk e cs.toList)).bind fun p => some (.slice (some ⟨p.1, 0, none⟩) len len, p.2)
def eMakeSlice (P : Program) (t : TypeId) (l c : Value) (s : St) : Option (Value × St) :=
  (asIdx l).bind fun l => (asIdx c).bind fun c => (P.underlying t).bind fun d => (sliceE d).bind fun e => (P.info? e).bind fun inf => (zeroT P e).bind fun z =>
    (ck (Nat.ble l c && Nat.ble (inf.bytes * c) 1099511627776 && Nat.beq z.cells.toList.length inf.size && !Nat.beq inf.size 0 && Nat.ble c 1099511627776)).bind fun _ =>
      (s.alloc { n := c * inf.size, z := z.cells.toList, t := .leaf, elem := e, exact := true, esz := 0, strish := false, ro := false }).bind fun p => some (.slice (some ⟨p.1, 0, none⟩) l c, p.2)
def bnd (x : Option Value) (dflt top : Nat) : Option Nat :=
  match x with
  | none => some dflt
  | some y => (asIdx y).bind fun i => (ck (Nat.ble i top)).bind fun _ => some i
def eSlice (P : Program) (t : TypeId) (x : Value) (lo hi mx : Option Value) (s : St) : Option (Value × St) :=
  match x with
  | .slice a len cap =>
    (P.underlying t).bind fun d => (sliceE d).bind fun e => (sizeT P e).bind fun sz => (ck (mx.isNone || hi.isSome)).bind fun _ =>
    (bnd mx cap cap).bind fun m => (bnd hi len m).bind fun h => (bnd lo 0 h).bind fun l => (ck (Nat.ble h m)).bind fun _ =>
      match a with
      | none => some (.slice none (h - l) (m - l), s)
      | some a => (s.h.get a.block).bind fun b =>
        match b.exact with
        | true => some (.slice (some (cond (Nat.beq m l) a (a.add (l * sz)))) (h - l) (m - l), s)
        | false => (ck (Nat.beq sz b.esz)).bind fun _ => some (.slice (some (a.add (l * sz))) (h - l) (m - l), s)
  | .string b =>
    (P.underlying t).bind fun d => match d with
      | .string => (bnd hi b.size b.size).bind fun h => (bnd lo 0 h).bind fun l => (ck mx.isNone).bind fun _ => some (.string (b.extract l h), s)
      | _ => none
  | _ => none
/-- 'arr[:]' and its like, of an array that lies in a block whose size is known. -/
def eSliceArr (P : Program) (t : TypeId) (x : Value) (lo hi mx : Option Value) (s : St) : Option (Value × St) :=
  (asPtr x).bind fun a => (P.underlying t).bind fun d =>
    match d with
    | .array n e => (sizeT P e).bind fun sz => (ck (mx.isNone || hi.isSome)).bind fun _ => (bnd mx n n).bind fun m => (bnd hi n m).bind fun h => (bnd lo 0 h).bind fun l =>
      (s.h.get a.block).bind fun b => (ck b.exact).bind fun _ => some (.slice (some (cond (Nat.beq m l) a (a.add (l * sz)))) (h - l) (m - l), s)
    | _ => none

def bytesOf : List Value → Option (List UInt8)
  | [] => some []
  | .int .u8 n :: r => (bytesOf r).bind fun l => some (UInt8.ofNat n.toNat :: l)
  | _ => none
def ofBytes (b : ByteArray) : List Value := b.data.toList.map fun c => .int .u8 c.toNat

def eToString (P : Program) (src dst : TypeId) (x : Value) (s : St) : Option (Value × St) :=
  (P.underlying src).bind fun ds => (P.underlying dst).bind fun dd =>
  match ds, dd, x with
  | .slice e, .string, .slice (some a) len _ => (P.underlying e).bind fun de => match de with
    | .int .u8 => (s.loads a len).bind fun vs => (bytesOf vs).bind fun l => some (.string ⟨l.toArray⟩, s)
    | _ => none
  | .slice e, .string, .slice none _ _ => (P.underlying e).bind fun de => match de with
    | .int .u8 => some (.string .empty, s)
    | _ => none
  | .string, .slice e, .string b => (P.underlying e).bind fun de => match de with
    | .int .u8 => (s.alloc (grownBlk e 1 true (ofBytes b))).bind fun p => some (.slice (some ⟨p.1, 0, none⟩) b.size b.size, p.2)
    | _ => none
  | .slice _, .slice e, .slice (some a) n c => (P.underlying e).bind fun de => match de with
    | .int .u8 => (ck (Nat.beq src dst)).bind fun _ => (s.h.get a.block).bind fun b => (ck (!b.ro)).bind fun _ =>
        some (.slice (some a) n c, { s with h := s.h.set a.block (some { b with strish := true }) })
    | _ => none
  | _, _, _ => none

/-- '==', '!=' where one side is nil. -/
def eEqNil (P : Program) (t : TypeId) (x y : Value) : Option Bool :=
  (P.underlying t).bind fun d =>
    match d, x, y with
    | .pointer _, .pointer (some _), .pointer none => some false
    | .pointer _, .pointer none, .pointer (some _) => some false
    | .slice _, .slice (some _) _ _, .slice none _ _ => some false
    | .slice _, .slice none _ _, .slice (some _) _ _ => some false
    | .func .., .func _ _ _, .nilFunc => some false
    | _, _, _ => none

def notInt : TypeDesc → Bool
  | .int _ => false
  | _ => true
def appNew (sz : Nat) (y : Value) (s : St) : Option (Nat × List Value) :=
  match y with
  | .slice (some a) n _ => (s.loads a (n * sz)).bind fun vs => some (n, vs)
  | .slice none n _ => (ck (Nat.beq n 0)).bind fun _ => some (0, [])
  | .string b => (ck (Nat.beq sz 1)).bind fun _ => some (b.size, ofBytes b)
  | _ => none
def eAppend (P : Program) (ty yt : TypeId) (x y : Value) (s : St) : Option (Value × St) :=
  (P.underlying ty).bind fun d => (sliceE d).bind fun e => (P.info? e).bind fun inf => (zeroT P e).bind fun z => (P.underlying yt).bind fun dy =>
  (ck (notInt dy && Nat.beq z.cells.toList.length inf.size && !Nat.beq inf.size 0 && !Nat.beq inf.bytes 0)).bind fun _ =>
  match x with
  | .slice base len cap =>
    (appNew inf.size y s).bind fun nv =>
      (ck (Nat.ble ((len + nv.1) * inf.bytes) 1099511627776)).bind fun _ =>
      match Nat.beq nv.1 0 with
      | true => (ck (Nat.ble len cap)).bind fun _ => some (x, s)
      | false =>
        match base with
        | none => (ck (Nat.beq len 0 && Nat.beq cap 0)).bind fun _ => (s.alloc (grownBlk e inf.size false nv.2)).bind fun p => some (.slice (some ⟨p.1, 0, none⟩) nv.1 nv.1, p.2)
        | some a =>
          match Nat.ble (len + nv.1) cap with
          | true => (s.stores (a.add (len * inf.size)) nv.2).bind fun s' => some (.slice (some a) (len + nv.1) cap, s')
          | false => (s.h.get a.block).bind fun b => (b.cells a.off (len * inf.size)).bind fun old =>
            match b.exact with
            | true => (s.alloc (grownBlk e inf.size false (old ++ nv.2))).bind fun p => some (.slice (some ⟨p.1, 0, none⟩) (len + nv.1) (len + nv.1), p.2)
            | false => (ck (Nat.beq b.esz inf.size && !b.ro && Nat.beq b.elem e)).bind fun _ =>
              ({ s with h := s.h.set a.block none }.alloc (grownBlk e inf.size b.strish (old ++ nv.2))).bind fun p => some (.slice (some ⟨p.1, 0, none⟩) (len + nv.1) (len + nv.1), p.2)
  | _ => none
def eLen (P : Program) (t : TypeId) (x : Value) (s : St) : Option (Value × St) :=
  (P.underlying t).bind fun d =>
    match d, x with
    | .slice _, .slice _ n _ => some (.int .i64 n, s)
    | .string, .string b => some (.int .i64 b.size, s)
    | .array n _, _ => some (.int .i64 n, s)
    | _, _ => none
def copySrc (sz dl : Nat) (y : Value) (s : St) : Option (Nat × List Value) :=
  match y with
  | .slice (some a) n _ => (s.loads a (Nat.min n dl * sz)).bind fun vs => some (Nat.min n dl, vs)
  | .slice none n _ => (ck (Nat.beq n 0)).bind fun _ => some (0, [])
  | .string b => (ck (Nat.beq sz 1)).bind fun _ => some (Nat.min b.size dl, ofBytes (b.extract 0 (Nat.min b.size dl)))
  | _ => none
def eCopy (P : Program) (t : TypeId) (x y : Value) (s : St) : Option (Value × St) :=
  (P.underlying t).bind fun d => (sliceE d).bind fun e => (sizeT P e).bind fun sz =>
    match x with
    | .slice base dl _ =>
      (copySrc sz dl y s).bind fun p => match Nat.beq p.1 0, base with
        | true, _ => some (.int .i64 0, s)
        | false, some a => (s.stores a p.2).bind fun s' => some (.int .i64 p.1, s')
        | false, none => none
    | _ => none

def eMakeMap (P : Program) (t : TypeId) (r : Option Value) (s : St) : Option (Value × St) :=
  (ck (match r with | none => true | some v => (asIdx v).isSome && (match P.underlying t with | some (.map _ _) => true | _ => false))).bind fun _ =>
  some (.map (some (2 * s.nx)), { s with hm := s.hm.set (2 * s.nx) (some (#[], 0)), nx := s.nx + s.st })
def mapT : TypeDesc → Option (TypeId × TypeId)
  | .map k e => some (k, e)
  | _ => none
def lookRest (keyT elemT : TypeId) (es : Array MapEntry) (ix : Value) (ok : Bool) : Sem Value := do
  Instr.checkKey es.isEmpty 10000 keyT ix
  let (v, b) ← match ← Instr.findKey keyT ix es.toList with
    | some (_, v) => pure (v, true)
    | none => pure (← zeroValue elemT, false)
  pure (if ok then .tuple #[v, .bool b] else v)
def eLookup (P : Program) (t : TypeId) (x ix : Value) (ok : Bool) (s : St) : Option (Value × St) :=
  (P.underlying t).bind fun d => (mapT d).bind fun ke => (ck (plain 8 ix)).bind fun _ =>
    match x with
    | .map (some r) => (s.hm.get r).bind fun m => (pureEval P (lookRest ke.1 ke.2 m.1 ix ok)).bind fun v => (ck (plain 8 v)).bind fun _ => some (v, s)
    | _ => none
def eMapUpdate (P : Program) (t : TypeId) (x key v : Value) (s : St) : Option (Value × St) :=
  (P.underlying t).bind fun d => (mapT d).bind fun ke => (ck (plain 8 key && plain 8 v)).bind fun _ =>
    match x with
    | .map (some r) => (s.hm.get r).bind fun m => (pureEval P (Instr.checkKey false 10000 ke.1 key)).bind fun _ => (pureEval P (Instr.findKey ke.1 key m.1.toList)).bind fun f =>
      match f with
      | some (i, _) => (ck (Instr.sameBits 10000 (((m.1[i]?).map (·.key)).getD key) key)).bind fun _ =>
          some (undef, { s with hm := s.hm.set r (some (m.1.modify i fun e => { e with key, val := v }, m.2)) })
      | none => some (undef, { s with hm := s.hm.set r (some (m.1.push { key, val := v, born := m.2 }, m.2 + 1)) })
    | _ => none

/-- Whatever looks at no memory and at no address: the model's own run. -/
def ePure (P : Program) (ρ : Operand → Value) (o : Oper) (s : St) : Option (Value × St) :=
  (ck (o.op.operands.toList.all fun x => plain 8 (ρ x))).bind fun _ => (pureEval P (execOp ρ o)).bind fun r =>
    match r with
    | .value v => (ck (plain 8 v)).bind fun _ => some (v, s)
    | _ => none

def orElse {α : Type} (x : Option α) (y : Unit → Option α) : Option α := match x with | some a => some a | none => y ()

def evalOp (P : Program) (ρ : Operand → Value) (o : Oper) (s : St) : Option (Value × St) :=
  match o.op with
  | .move x | .assign x => some (ρ x, s)
  | .pick c a b => match ρ c with
    | .bool true => some (ρ a, s)
    | .bool false => some (ρ b, s)
    | _ => none
  | .alloc elem => eAlloc P elem s
  | .box elem x => eBox elem (ρ x) s
  | .load t a => eLoad P t (ρ a) s
  | .store t a x => eStore P t (ρ a) (ρ x) s
  | .nilCheck x => eNil (ρ x) s
  | .fieldAddr t x f => eFieldAddr P t (ρ x) f s
  | .indexAddr t x ix => eIndexAddr P t (ρ x) (ρ ix) s
  | .field t x f => eField P t (ρ x) f s
  | .index t x ix => eIndex P t (ρ x) (ρ ix) s
  | .extract x ix => eExtract (ρ x) ix s
  | .build t parts => eBuild P t (parts.toList.map fun p => (p.1, ρ p.2)) s
  | .buildSlice t len parts => eBuildSlice P t len (parts.toList.map fun p => (p.1, ρ p.2)) s
  | .makeSlice t l c => eMakeSlice P t (ρ l) (ρ c) s
  | .slice t x lo hi mx => match ρ x with
    | .pointer _ => eSliceArr P t (ρ x) (lo.map ρ) (hi.map ρ) (mx.map ρ) s
    | _ => eSlice P t (ρ x) (lo.map ρ) (hi.map ρ) (mx.map ρ) s
  | .convert src dst x => match ρ x with
    | .int _ _ => ePure P ρ o s
    | .string b => orElse (eToString P src dst (ρ x) s) fun _ => ePure P ρ o s
    | _ => eToString P src dst (ρ x) s
  | .makeMap t r => eMakeMap P t (r.map ρ) s
  | .lookup t x ix ok => eLookup P t (ρ x) (ρ ix) ok s
  | .mapUpdate t m k x | .insert t m k x => eMapUpdate P t (ρ m) (ρ k) (ρ x) s
  | .makeFunc fn first captured => some (.func fn (first.map ρ) (captured.map ρ), s)
  | .binOp op t x y _ => match op with
    | .eql => orElse ((eEqNil P t (ρ x) (ρ y)).bind fun b => some (.bool b, s)) fun _ => ePure P ρ o s
    | .neq => orElse ((eEqNil P t (ρ x) (ρ y)).bind fun b => some (.bool (!b), s)) fun _ => ePure P ρ o s
    | _ => ePure P ρ o s
  | .call { callee := .builtin bi, args, argTypes } =>
    match bi with
    | .append => match argTypes.toList, args.toList with
      | [t, ty], [x, y] => eAppend P t ty (ρ x) (ρ y) s
      | _, _ => none
    | .len => match argTypes.toList, args.toList with
      | [t], [x] => eLen P t (ρ x) s
      | _, _ => none
    | .copy => match argTypes.toList, args.toList with
      | [t, _], [x, y] => eCopy P t (ρ x) (ρ y) s
      | _, _ => none
    | .max | .min => ePure P ρ o s
    | _ => none
  | .unOp .. | .makeInterface .. | .typeAssert .. => ePure P ρ o s
  | _ => none

def ρof (t : PT Value) : Operand → Value
  | .tmp i => match t.get i with | some v => v | none => undef
  | .const v => v
  | .global g => .pointer (some ⟨2 * g + 1, 0, none⟩)
  | .func f => .func (.func f) #[] #[]

def okConst : Operand → Bool
  | .const v => plain 8 v
  | _ => true
def okOp (o : Oper) : Bool := o.op.operands.toList.all okConst

structure FS where
  t : PT Value
  nt : Nat
  s : St

inductive Ex where
  | normal | exit (id : Nat) | ret

abbrev CallF := FuncId → List Value → St → Option (Value × St)

def callTarget : Op → Option (Operand × Array Operand)
  | .call { callee := .value f, args, .. } => some (f, args)
  | _ => none

def evalAny (P : Program) (cf : CallF) (t : PT Value) (o : Oper) (s : St) : Option (Value × St) :=
  (ck (okOp o)).bind fun _ =>
  match callTarget o.op with
  | some (f, args) => match ρof t f with
    | .func (.func f) first captured => cf f (first.toList ++ args.toList.map (ρof t) ++ captured.toList) s
    | _ => none
  | none => evalOp P (ρof t) o s

def putT (f : FS) (d : Option Tmp) (v : Value) (s : St) : Option FS := match d with
  | some d => (ck (Nat.blt d f.nt)).bind fun _ => some { t := f.t.set d (some v), nt := f.nt, s }
  | none => some { f with s }

def yieldedE (ops : Array Oper) (t : PT Value) (j : Nat) : Option Bool :=
  (ops[j]?).bind fun oj => oj.dst.bind fun d => match t.get d with
    | some (.bool b) => some b
    | _ => none

def evalOps (P : Program) (cf : CallF) (ops : Array Oper) : List Oper → FS → Option FS
  | [], f => some f
  | o :: r, f =>
    match Region.wanted o (yieldedE ops f.t) with
    | true => (evalAny P cf f.t o f.s).bind fun p => (putT f o.dst p.1 p.2).bind fun f' => evalOps P cf ops r f'
    | false => (putT f o.dst undef f.s).bind fun f' => evalOps P cf ops r f'

def loopE (body : FS → Option (Ex × FS)) : Nat → FS → Option (Ex × FS)
  | 0, _ => none
  | n + 1, f => (body f).bind fun p => match p.1 with
    | .normal => loopE body n p.2
    | x => some (x, p.2)

abbrev DrawF := Array Oper → FS → Option FS

def evalCode (P : Program) (cf : CallF) (df : DrawF) (lf : Nat) : Code → FS → Option (Ex × FS)
  | .skip, f => some (.normal, f)
  | .region _ ops draw, f => match draw with
    | false => (evalOps P cf ops ops.toList f).bind fun f' => some (.normal, f')
    | true => (df ops f).bind fun f' => some (.normal, f')
  | .seq a b, f => (evalCode P cf df lf a f).bind fun p => match p.1 with
    | .normal => evalCode P cf df lf b p.2
    | x => some (x, p.2)
  | .cond c a b, f => match ρof f.t c with
    | .bool true => evalCode P cf df lf a f
    | .bool false => evalCode P cf df lf b f
    | _ => none
  | .block id a, f => (evalCode P cf df lf a f).bind fun p => match p.1 with
    | .exit i => cond (Nat.beq i id) (some (.normal, p.2)) (some (.exit i, p.2))
    | x => some (x, p.2)
  | .loop a, f => loopE (evalCode P cf df lf a) lf f
  | .exit i, f => some (.exit i, f)
  | .ret, f => some (.ret, f)
  | _, _ => none

def resOne (P : Program) (f : FS) : ResultVar → Option Value
  | .tmp i => some (ρof f.t (.tmp i))
  | .cell i t => (eLoad P t (ρof f.t (.tmp i)) f.s).bind fun p => some p.1
def resList (P : Program) (f : FS) : List ResultVar → Option (List Value)
  | [] => some []
  | r :: rs => (resOne P f r).bind fun v => (resList P f rs).bind fun vs => some (v :: vs)
def resultsE (P : Program) (fn : Func) (f : FS) : Option Value :=
  (resList P f fn.results.toList).bind fun vs => match vs with
    | [v] => some v
    | vs => some (.tuple vs.toArray)

abbrev ExtF := FuncId → Option (List Value → St → Option (Value × St))

def callE (P : Program) (X : ExtF) (dr : CallF → DrawF) (lf : Nat) : Nat → CallF
  | 0, _, _, _ => none
  | n + 1, f, args, s => match X f with
    | some g => g args s
    | none => (P.funcs[f]?).bind fun fn => fn.body.bind fun c => (ck (!(fn.name == "runtime.NumGoroutine") && Nat.ble args.length fn.ntmps)).bind fun _ =>
      (evalCode P (callE P X dr lf n) (dr (callE P X dr lf n)) lf c { t := setCells .leaf 0 args, nt := fn.ntmps, s }).bind fun p => match p.1 with
        | .exit _ => none
        | _ => (resultsE P fn p.2).bind fun v => some (v, p.2.s)

end Go.AE
