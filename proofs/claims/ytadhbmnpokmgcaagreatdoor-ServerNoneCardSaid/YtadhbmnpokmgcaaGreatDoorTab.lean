/- The tables that the interpreter reads, out of a program. -/
import Derived.Test.YtadhbmnpokmgcaaGreatDoorA1
namespace Go.Abs
open Go
noncomputable section

def structOk (p : Program) (fs : Array Field) : Bool := fs.toList.all fun f => (match p.info? f.type with | some i => Nat.ble 1 i.size | none => false)

def tdOf (p : Program) : TypeDesc → TD
  | .bool => .bool
  | .int k => .int k
  | .string => .str
  | .pointer _ => .ptr
  | .slice e => .slice e
  | .array n e => .array n e
  | .map k e => .map k e
  | .struct fs => bif structOk p fs then .struct (fs.toList.map fun f => (f.offset, f.type)) else .other
  | .func _ _ _ => .func
  | _ => .other

def isAggD : TypeDesc → Bool
  | .struct _ | .array _ _ => true
  | _ => false

def scalarT (p : Program) (t : Nat) : Option TD :=
  match p.underlying t with
  | some .bool => some .bool
  | some (.int k) => some (.int k)
  | some .string => some .str
  | _ => none

def flatFields (p : Program) : List Field → Nat → Option (List TD)
  | [], _ => some []
  | f :: fs, i => bif Nat.beq f.offset i && f.name != "_" then (scalarT p f.type).bind fun d => (flatFields p fs (i + 1)).map (d :: ·) else none

def cmpT (p : Program) (t : Nat) : Option (List TD) :=
  match p.underlying t with
  | some (.struct fs) => bif p.eqGuardType p.depth t || p.stoodInHeld t then none else flatFields p fs.toList 0
  | some (.array n e) => bif p.eqGuardType p.depth t || !Nat.beq (p.cellsOf e) 1 then none else (scalarT p e).map fun d => List.replicate n d
  | _ => none

/-- A cell that bears no address, and is told as it is. -/
def plainCell : Value → Bool
  | .bool _ | .int _ _ | .string _ | .pointer none | .slice none 0 0 | .map none | .nilFunc | .nilIface | .chan none | .float _ _ | .complex _ _ _ => true
  | _ => false

def zeroOk (agg : Bool) (size : Nat) (z : Value) : Bool :=
  z.cells.toList.all plainCell && Nat.beq z.cells.toList.length size && (match z with | .agg _ => agg | .tuple _ => false | _ => !agg)

def tiOf (p : Program) (t : Nat) : Option TI :=
  match p.underlying t, p.info? t with
  | some d, some i =>
    match i.zero with
    | some z =>
      bif zeroOk (isAggD d) i.size z then some { d := tdOf p d, agg := isAggD d, size := i.size, bytes := i.bytes, zero := z.cells.toList.map ofCell, cmp := cmpT p t } else none
    | none => none
  | _, _ => none

/-! The places of a region's operations that do something, and what each reading stands between. -/
def doesAt (c : Ctx) (ops : List Oper) : List Nat := (ops.zipIdx.filter fun p => decide (kindOf c p.1.op = .does)).map (·.2)

def planFor (c : Ctx) (ops : Array Oper) : Plan :=
  let b := Region.before ops
  let ds := doesAt c ops.toList
  (ops.toList.zipIdx.filter fun p => decide (kindOf c p.1.op = .reads)).map fun p =>
    let r := p.2
    let lo := (ds.takeWhile fun e => (b.getD r 0).testBit e).length
    let hi := (ds.takeWhile fun e => !(b.getD e 0).testBit r).length
    (r, lo, hi)

def plansIn (c : Ctx) : Code → Tr Plan → Tr Plan
  | .region id ops true, t => t.set id (some (planFor c ops))
  | .seq a b, t | .cond _ a b, t | .rangeFunc _ _ a b, t => plansIn c b (plansIn c a t)
  | .block _ b, t | .loop b, t | .scope b, t => plansIn c b t
  | _, t => t

end
end Go.Abs
