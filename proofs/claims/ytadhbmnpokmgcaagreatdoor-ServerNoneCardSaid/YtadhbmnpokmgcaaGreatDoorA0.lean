/- The abstract interpreter: what a run of the program comes to, on memory told by names of its own, with what Go leaves open asked or shut out. Definitions alone. -/
import Derived.RangeFuncLeaves
import Derived.Below
import Derived.Orders
namespace Go.Abs
open Go
noncomputable section

/-! ### Values -/
/-- One cell's value. -/
inductive V where
  | bool (b : Bool)
  | int (k : IntKind) (n : Int)
  | str (s : List UInt8)
  | nilp
  | ptr (b o : Nat)
  | nils
  | slice (b o len cap : Nat) (opn : Nat)
  | nilm
  | map (b : Nat)
  | nilf
  | func (f : FuncId) (first cap : List (Nat × Nat))
  | yield (l : Nat)
  /-- A number (an int's) that is no less than k. -/
  | capGe (k : Nat)
  | bad
  deriving DecidableEq

/-- A value: one cell, or the cells of a struct or an array. -/
inductive Y where
  | v (x : V)
  | agg (cs : List V)
  deriving DecidableEq

/-- What a temporary holds. -/
inductive X where
  | y (x : Y)
  | tup (xs : List Y)
  deriving DecidableEq

def undefX : X := .tup []
def Y.cells : Y → List V
  | .v x => [x]
  | .agg cs => cs

/-! ### Outcomes -/
inductive T (α : Type) where
  | ret (a : α)
  | fail
  | ask (n : Nat) (k : Nat → T α)

def T.bind {α β : Type} (t : T α) (f : α → T β) : T β :=
  T.rec (motive := fun _ => T β) (fun a => f a) .fail (fun n _ ih => .ask n ih) t

def T.all {α : Type} (Q : α → Prop) (t : T α) : Prop :=
  T.rec (motive := fun _ => Prop) (fun a => Q a) False (fun n _ ih => ∀ i, i < n → ih i) t

/-! ### Tries -/
inductive Tr (α : Type) where
  | e
  | n (x : Option α) (l r : Tr α)

def Tr.get {α : Type} (t : Tr α) : Nat → Option α :=
  Tr.rec (motive := fun _ => Nat → Option α) (fun _ => none)
    (fun x _ _ gl gr i => bif Nat.beq i 0 then x else bif Nat.beq (Nat.mod i 2) 1 then gl (Nat.div i 2) else gr (Nat.sub (Nat.div i 2) 1)) t

def Tr.setF {α : Type} (x : Option α) (fuel : Nat) : Tr α → Nat → Tr α :=
  Nat.rec (motive := fun _ => Tr α → Nat → Tr α) (fun t _ => t)
    (fun _ ih t i => Tr.casesOn (motive := fun _ => Tr α) t
      (bif Nat.beq i 0 then .n x .e .e else bif Nat.beq (Nat.mod i 2) 1 then .n none (ih .e (Nat.div i 2)) .e else .n none .e (ih .e (Nat.sub (Nat.div i 2) 1)))
      (fun y l r => bif Nat.beq i 0 then .n x l r else bif Nat.beq (Nat.mod i 2) 1 then .n y (ih l (Nat.div i 2)) r else .n y l (ih r (Nat.sub (Nat.div i 2) 1)))) fuel

def Tr.set {α : Type} (t : Tr α) (i : Nat) (x : Option α) : Tr α := Tr.setF x (Nat.succ i) t i

/-! ### Memory -/
structure LoopR where
  state : LoopState
  pending : Option Code
  env : Tr X
  n : Nat
  params : List Nat
  assign : Code
  body : Code
  defers : Nat
  fn : FuncId

inductive O where
  | cells (cs : List V) (ro : Bool)
  | map (es : List (Y × Y × Nat)) (clock : Nat)
  | siter (s : List UInt8) (pos : Nat)
  | miter (m : Option Nat) (since : Nat) (seen : List Nat) (stepped : Nat)
  | loop (l : LoopR)
  | defer

structure H where
  next : Nat
  tr : Tr O

def H.get (h : H) (b : Nat) : Option O := h.tr.get b
def H.put (h : H) (b : Nat) (o : O) : H := { h with tr := h.tr.set b (some o) }
def H.kill (h : H) (b : Nat) : H := { h with tr := h.tr.set b none }
def H.new (h : H) (o : O) : H := { next := Nat.succ h.next, tr := h.tr.set h.next (some o) }

/-! ### The program's tables, as the interpreter reads them -/
inductive TD where
  | bool
  | int (k : IntKind)
  | str
  | ptr
  | slice (e : Nat)
  | array (n e : Nat)
  | map (k e : Nat)
  | struct (fs : List (Nat × Nat))
  | func
  | other
  deriving DecidableEq

structure TI where
  d : TD
  agg : Bool
  size : Nat
  bytes : Nat
  zero : List V
  /-- Values of this type are compared cell by cell: what kinds the cells are of. -/
  cmp : Option (List TD)
  deriving DecidableEq

/-- A region's operations that only read, and how many of its operations that do something stand ahead of each at least, and at most. -/
abbrev Plan := List (Nat × Nat × Nat)

structure FI where
  body : Code
  ntmps : Nat
  results : List ResultVar
  /-- All outcomes of a call are made one. -/
  join : Bool
  plans : Tr Plan

structure Ctx where
  ti : Tr TI
  fi : Tr FI
  prim : FuncId → Option (List Y → H → T (X × H))

abbrev Res := T (X × H)

/-! ### Environments -/
structure Env where
  t : Tr X
  n : Nat
  marks : List Nat

def Env.get (e : Env) (i : Nat) : X := (e.t.get i).getD undefX
def Env.put (e : Env) (i : Nat) (x : X) : Env := bif Nat.blt i e.n then { e with t := e.t.set i (some x) } else e
def Env.putD (e : Env) (d : Option Tmp) (x : X) : Env :=
  match d with
  | some i => e.put i x
  | none => e

def ofCell : Value → V
  | .bool b => .bool b
  | .int k n => .int k n
  | .string s => .str s.data.toList
  | .pointer none => .nilp
  | .slice none 0 0 => .nils
  | .map none => .nilm
  | .nilFunc => .nilf
  | .func (.func f) ⟨[]⟩ ⟨[]⟩ => .func f [] []
  | _ => .bad

def ofConst : Value → X
  | .agg cs => .y (.agg (cs.toList.map ofCell))
  | .tuple ⟨[]⟩ => .tup []
  | v => .y (.v (ofCell v))

def Env.ev (e : Env) : Operand → X
  | .tmp t => e.get t
  | .const v => ofConst v
  | .global _ => .y (.v .bad)
  | .func f => .y (.v (.func f [] []))

/-! ### Small helpers -/
def X.k {β : Type} (x : X) (f : Y → T β) : T β :=
  match x with
  | .y a => f a
  | .tup _ => .fail
def X.kv {β : Type} (x : X) (f : V → T β) : T β :=
  match x with
  | .y (.v v) => f v
  | _ => .fail
def V.kint {β : Type} (v : V) (f : Int → T β) : T β :=
  match v with
  | .int _ n => f n
  | _ => .fail
def V.knat {β : Type} (v : V) (f : Nat → T β) : T β :=
  match v with
  | .int _ (.ofNat n) => f n
  | _ => .fail
def okO {α β : Type} (x : Option α) (f : α → T β) : T β :=
  match x with
  | some a => f a
  | none => .fail
def guardT {β : Type} (b : Bool) (t : T β) : T β := bif b then t else .fail
def rV (v : V) (h : H) : Res := .ret (.y (.v v), h)
def rY (y : Y) (h : H) : Res := .ret (.y y, h)

/-- 2^63. -/
def two63 : Nat := 9223372036854775808

def wrapV (k : IntKind) (n : Int) : Int :=
  match k, n with
  | .i64, .ofNat m => bif Nat.blt m two63 then .ofNat m else IntKind.wrap .i64 (.ofNat m)
  | .i64, .negSucc m => bif Nat.blt m two63 then .negSucc m else IntKind.wrap .i64 (.negSucc m)
  | .u8, .ofNat m => .ofNat (Nat.mod m 256)
  | k, n => IntKind.wrap k n

def getCells (h : H) (b : Nat) : Option (List V) :=
  match h.get b with
  | some (.cells cs _) => some cs
  | _ => none

/-- n cells from o on. -/
def sub (cs : List V) (o n : Nat) : Option (List V) :=
  bif Nat.ble (o + n) cs.length then some ((cs.drop o).take n) else none

def setAt (cs : List V) (o : Nat) (vs : List V) : List V := cs.take o ++ vs ++ cs.drop (o + vs.length)

def putCells (h : H) (b o : Nat) (vs : List V) : Option H :=
  match h.get b with
  | some (.cells cs false) => bif Nat.ble (o + vs.length) cs.length then some (h.put b (.cells (setAt cs o vs) false)) else none
  | _ => none

/-- As putCells, but the cells may reach beyond those that are known. -/
def putOver (h : H) (b o : Nat) (vs : List V) : Option H :=
  match h.get b with
  | some (.cells cs false) => bif Nat.ble o cs.length then some (h.put b (.cells (setAt cs o vs) false)) else none
  | _ => none

def loadY (c : Ctx) (h : H) (t b o : Nat) : Option Y :=
  match c.ti.get t, getCells h b with
  | some i, some cs => bif i.agg then (sub cs o i.size).map .agg else (cs[o]?).map .v
  | _, _ => none

def rep (z : List V) (n : Nat) : List V := Nat.rec (motive := fun _ => List V) [] (fun _ ih => z ++ ih) n

/-- How many elements, and their cells. -/
def lenOf : V → Option Nat
  | .nils => some 0
  | .slice _ _ n _ _ => some n
  | .str s => some s.length
  | _ => none

def firstCells (h : H) (size n : Nat) : V → Option (List V)
  | .nils => some []
  | .slice b o _ _ _ => (getCells h b).bind fun cs => sub cs o (n * size)
  | .str s => some ((s.take n).map fun b => .int .u8 (.ofNat b.toNat))
  | _ => none

def bytesLess : List UInt8 → List UInt8 → Bool
  | _, [] => false
  | [], _ :: _ => true
  | a :: x, b :: y => bif Nat.blt a.toNat b.toNat then true else bif Nat.beq a.toNat b.toNat then bytesLess x y else false

def bytesEq : List UInt8 → List UInt8 → Bool
  | [], [] => true
  | a :: x, b :: y => bif Nat.beq a.toNat b.toNat then bytesEq x y else false
  | _, _ => false

def intEq : Int → Int → Bool
  | .ofNat a, .ofNat b => Nat.beq a b
  | .negSucc a, .negSucc b => Nat.beq a b
  | _, _ => false
def intLt : Int → Int → Bool
  | .ofNat a, .ofNat b => Nat.blt a b
  | .negSucc a, .negSucc b => Nat.blt b a
  | .negSucc _, .ofNat _ => true
  | .ofNat _, .negSucc _ => false

def IntKind.beqV (a b : IntKind) : Bool := decide (a = b)

/-- Are two cells of a type equal? (Numbers and texts: elsewhere.) -/
def eqV (d : TD) (x y : V) : Option Bool :=
  match d with
  | .bool => match x, y with
    | .bool a, .bool b => some (a == b)
    | _, _ => none
  | .ptr => match x, y with
    | .nilp, .nilp => some true
    | .nilp, .ptr _ _ => some false
    | .ptr _ _, .nilp => some false
    | _, _ => none
  | .slice _ => match x, y with
    | .nils, .nils => some true
    | .nils, .slice _ _ _ _ _ => some false
    | .slice _ _ _ _ _, .nils => some false
    | _, _ => none
  | .map _ _ => match x, y with
    | .nilm, .nilm => some true
    | .nilm, .map _ => some false
    | .map _, .nilm => some false
    | _, _ => none
  | .func => match x, y with
    | .nilf, .nilf => some true
    | .nilf, .func _ _ _ => some false
    | .func _ _ _, .nilf => some false
    | _, _ => none
  | _ => none

/-- Two cells that bear no address. -/
def eqScalar (d : TD) (a b : V) : Option Bool :=
  match d, a, b with
  | .bool, .bool a, .bool b => some (a == b)
  | .int _, .int k a, .int k' b => bif IntKind.beqV k k' then some (intEq a b) else none
  | .str, .str a, .str b => some (bytesEq a b)
  | _, _, _ => none

/-- Cells that bear no address, one by one. -/
def eqCells : List TD → List V → List V → Option Bool
  | [], [], [] => some true
  | d :: ks, a :: x, b :: y => (eqScalar d a b).bind fun r => (eqCells ks x y).map (r && ·)
  | _, _, _ => none

def eqY (c : Ctx) (t : Nat) (x y : Y) : Option Bool :=
  match c.ti.get t with
  | some i =>
    match x, y with
    | .v a, .v b => eqV i.d a b
    | .agg a, .agg b => i.cmp.bind fun ks => eqCells ks a b
    | _, _ => none
  | none => none

def intOp (op : BinOp) (k : IntKind) (a b : Int) : Option V :=
  match op with
  | .add => some (.int k (wrapV k (a + b)))
  | .sub => some (.int k (wrapV k (a - b)))
  | .mul => some (.int k (wrapV k (a * b)))
  | .quo => bif intEq b 0 then none else some (.int k (wrapV k (a.tdiv b)))
  | .rem => bif intEq b 0 then none else some (.int k (a.tmod b))
  | .and => some (.int k (k.wrap (BitVec.ofInt k.bits a &&& BitVec.ofInt k.bits b).toNat))
  | .or => some (.int k (k.wrap (BitVec.ofInt k.bits a ||| BitVec.ofInt k.bits b).toNat))
  | .xor => some (.int k (k.wrap (BitVec.ofInt k.bits a ^^^ BitVec.ofInt k.bits b).toNat))
  | .eql => some (.bool (intEq a b))
  | .neq => some (.bool (!intEq a b))
  | .lss => some (.bool (intLt a b))
  | .leq => some (.bool (!intLt b a))
  | .gtr => some (.bool (intLt b a))
  | .geq => some (.bool (!intLt a b))
  | _ => none

def shiftOp (op : BinOp) (k : IntKind) (a b : Int) : Option V :=
  bif intLt b 0 then none else
  match op with
  | .shl => some (.int k (wrapV k (a * 2 ^ (min b.toNat k.bits))))
  | .shr => some (.int k (a.fdiv (2 ^ (min b.toNat k.bits))))
  | _ => none

def strOp (op : BinOp) (a b : List UInt8) : Option V :=
  match op with
  | .add => bif Nat.ble (a.length + b.length) 9223372036854775807 then some (.str (a ++ b)) else none
  | .eql => some (.bool (bytesEq a b))
  | .neq => some (.bool (!bytesEq a b))
  | .lss => some (.bool (bytesLess a b))
  | .leq => some (.bool (bytesLess a b || bytesEq a b))
  | .gtr => some (.bool (!(bytesLess a b || bytesEq a b)))
  | .geq => some (.bool (!bytesLess a b))
  | _ => none

def isShift : BinOp → Bool
  | .shl | .shr => true
  | _ => false

/-- Is a number greater than one that is no less than m? No, if it is m at most. -/
def gtrGe (op : BinOp) (k : IntKind) (a : Int) (m : Nat) : Option V :=
  match op with
  | .gtr => bif IntKind.beqV k .i64 then (bif intLt (.ofNat m) a then none else some (.bool false)) else none
  | _ => none

def binOp (c : Ctx) (op : BinOp) (t : Nat) (x y : Y) : Option V :=
  match x, y with
  | .v (.int k a), .v (.int k' b) => bif isShift op then shiftOp op k a b else bif IntKind.beqV k k' then intOp op k a b else none
  | .v (.str a), .v (.str b) => strOp op a b
  | .v (.int k a), .v (.capGe m) => gtrGe op k a m
  | x, y =>
    match op with
    | .eql => (eqY c t x y).map .bool
    | .neq => (eqY c t x y).map fun b => .bool !b
    | _ => none

/-! ### Slices -/
/-- How many cells the block of an open slice is known to have: its capacity reaches so far at least. -/
def boundOf (x : Option X) (d : Nat) : T Nat :=
  match x with
  | none => .ret d
  | some x => x.kv fun v => v.knat .ret

def sliceOp (c : Ctx) (t : Nat) (x : V) (lo hi mx : Option X) : T V :=
  guardT (mx.isNone || hi.isSome) <|
  match x with
  | .str s =>
    okO (c.ti.get t) fun i => guardT (match i.d with | .str => true | _ => false) <|
    guardT mx.isNone <| (boundOf hi s.length).bind fun h => (boundOf lo 0).bind fun l =>
    guardT (Nat.ble h s.length && Nat.ble l h) <| .ret (.str ((s.take h).drop l))
  | .nils =>
    okO (c.ti.get t) fun i =>
    match i.d with
    | .slice e => okO (c.ti.get e) fun _ =>
      (boundOf mx 0).bind fun m => (boundOf hi 0).bind fun h => (boundOf lo 0).bind fun l =>
      guardT (Nat.beq m 0 && Nat.beq h 0 && Nat.beq l 0) <| .ret .nils
    | _ => .fail
  | .slice b o len cap opn =>
    okO (c.ti.get t) fun i =>
    match i.d with
    | .slice e => okO (c.ti.get e) fun ei => guardT (bif Nat.beq opn 0 then true else Nat.beq opn ei.size) <|
      (boundOf mx cap).bind fun m => (boundOf hi len).bind fun h => (boundOf lo 0).bind fun l =>
      guardT (Nat.ble m cap && Nat.ble h m && Nat.ble l h) <| .ret (.slice b (o + l * ei.size) (h - l) (m - l) (match mx with | none => opn | some _ => 0))
    | _ => .fail
  | .ptr b o =>
    okO (c.ti.get t) fun i =>
    match i.d with
    | .array n e => okO (c.ti.get e) fun ei =>
      (boundOf mx n).bind fun m => (boundOf hi n).bind fun h => (boundOf lo 0).bind fun l =>
      guardT (Nat.ble m n && Nat.ble h m && Nat.ble l h) <| .ret (.slice b (o + l * ei.size) (h - l) (m - l) 0)
    | _ => .fail
  | _ => .fail

def maxGrow : Nat := 140737488355328

/-- May the block be written? -/
def isRW (h : H) (b : Nat) : Bool :=
  match h.get b with
  | some (.cells _ false) => true
  | _ => false

def appendTo (h : H) (ei : TI) (s : V) (n : Nat) (new : List V) : Res :=
  match s with
  | .nils =>
    bif Nat.beq n 0 then rV .nils h else
    guardT (Nat.ble (n * ei.bytes) maxGrow && Nat.ble 1 ei.bytes && Nat.ble 1 ei.size) <| rV (.slice h.next 0 n n ei.size) (h.new (.cells new false))
  | .slice b o len cap opn =>
    bif Nat.ble (len + n) cap then
      bif Nat.beq n 0 then rV s h else
      okO (putCells h b (o + len * ei.size) new) fun h' => rV (.slice b o (len + n) cap opn) h'
    else
      guardT (Nat.ble ((len + n) * ei.bytes) maxGrow && Nat.ble 1 ei.bytes && Nat.ble 1 ei.size) <|
      okO (getCells h b) fun cs =>
      okO (sub cs o (len * ei.size)) fun old =>
      bif Nat.beq opn 0 then rV (.slice h.next 0 (len + n) (len + n) ei.size) (h.new (.cells (old ++ new) false))
      else guardT (Nat.beq opn ei.size && isRW h b) <| rV (.slice h.next 0 (len + n) (len + n) ei.size) ((h.kill b).new (.cells (old ++ new) false))
  | _ => .fail

def appendOp (c : Ctx) (h : H) (e : Nat) (s : V) (x : V) : Res :=
  okO (c.ti.get e) fun ei => okO (lenOf x) fun n => okO (firstCells h ei.size n x) fun new =>
  guardT (Nat.beq new.length (n * ei.size)) <| appendTo h ei s n new

/-- What is appended is made for it. -/
def appendMade (c : Ctx) (h : H) (e : Nat) (s : V) (x : V) : Res :=
  okO (c.ti.get e) fun ei => x.knat fun n =>
  guardT (Nat.ble 1 n && Nat.ble n maxGrow && Nat.ble (n * ei.bytes) maxGrow && Nat.ble 1 ei.size) <| appendTo h ei s n (rep ei.zero n)

/-! ### Maps -/
def findKey (ks : Option (List TD)) (k : Y) : List (Y × Y × Nat) → Nat → Option (Option (Nat × Y))
  | [], _ => some none
  | e :: es, i =>
    match k, e.1 with
    | .v (.int k1 a), .v (.int k2 b) => bif IntKind.beqV k1 k2 then (bif intEq a b then some (some (i, e.2.1)) else findKey ks k es (Nat.succ i)) else none
    | .v (.str a), .v (.str b) => bif bytesEq a b then some (some (i, e.2.1)) else findKey ks k es (Nat.succ i)
    | .agg a, .agg b =>
      match ks.bind fun ks => eqCells ks a b with
      | some true => some (some (i, e.2.1))
      | some false => findKey ks k es (Nat.succ i)
      | none => none
    | _, _ => none

/-- May values of this type be a map's keys, as the interpreter has them? -/
def keyOk (i : TI) (k : Y) : Bool :=
  match k with
  | .v (.int _ _) => match i.d with | .int _ => true | _ => false
  | .v (.str _) => match i.d with | .str => true | _ => false
  | .agg cs => match i.d, i.cmp with | .struct _, some ks => Nat.beq cs.length ks.length | _, _ => false
  | _ => false

/-- What stands at a key in entries of a map with keys of type kt. -/
def findAt (c : Ctx) (kt : Nat) (k : Y) (es : List (Y × Y × Nat)) : Option (Option (Nat × Y)) :=
  match c.ti.get kt with
  | some ki => bif keyOk ki k then findKey ki.cmp k es 0 else none
  | none => none

def setNth (l : List (Y × Y × Nat)) (i : Nat) (k v : Y) : List (Y × Y × Nat) :=
  match l, i with
  | [], _ => []
  | e :: es, 0 => (k, v, e.2.2) :: es
  | e :: es, i + 1 => e :: setNth es i k v

def getMap (h : H) (b : Nat) : Option (List (Y × Y × Nat) × Nat) :=
  match h.get b with
  | some (.map es clock) => some (es, clock)
  | _ => none

def entriesOf (h : H) (m : V) : Option (List (Y × Y × Nat)) :=
  match m with
  | .nilm => some []
  | .map b => (getMap h b).map fun p => p.1
  | _ => none

def mapT (c : Ctx) (t : Nat) : Option (Nat × Nat) := (c.ti.get t).bind fun i => match i.d with | .map k e => some (k, e) | _ => none

def zeroY (i : TI) : Y := bif i.agg then .agg i.zero else .v (i.zero.headD .bad)

def lookupOp (c : Ctx) (h : H) (t : Nat) (m : V) (k : Y) (commaOk : Bool) : Option X :=
  (mapT c t).bind fun ke =>
  (c.ti.get ke.2).bind fun ei =>
  (entriesOf h m).bind fun es =>
  (findAt c ke.1 k es).map fun r =>
    let v := match r with | some p => p.2 | none => zeroY ei
    bif commaOk then .tup [v, .v (.bool r.isSome)] else .y v

def mapUpdateOp (c : Ctx) (h : H) (t : Nat) (m : V) (k v : Y) : Option H :=
  match m with
  | .map b =>
    (mapT c t).bind fun ke =>
    (getMap h b).bind fun p =>
    (findAt c ke.1 k p.1).map fun r =>
      match r with
      | some q => h.put b (.map (setNth p.1 q.1 k v) p.2)
      | none => h.put b (.map (p.1 ++ [(k, v, p.2)]) (Nat.succ p.2))
  | _ => none

def deleteOp (c : Ctx) (h : H) (t : Nat) (m : V) (k : Y) : Option H :=
  match m with
  | .map b =>
    (mapT c t).bind fun ke =>
    (getMap h b).bind fun p =>
    (findAt c ke.1 k p.1).map fun r =>
      match r with
      | some q => h.put b (.map (p.1.eraseIdx q.1) p.2)
      | none => h
  | _ => none

/-! ### Operations that need no memory -/
def convA (c : Ctx) (src dst : Nat) (x : V) : Option V :=
  match c.ti.get src, c.ti.get dst, x with
  | some _, some d, .int _ n => match d.d with | .int k => some (.int k (wrapV k n)) | _ => none
  | some _, some d, .str s => match d.d with | .str => some (.str s) | _ => none
  | _, _, _ => none

def fieldOff (c : Ctx) (s f : Nat) : Option (Nat × Nat) :=
  (c.ti.get s).bind fun i => match i.d with | .struct fs => fs[f]? | _ => none

def partOf (c : Ctx) (t : Nat) (cs : List V) (off : Nat) : Option Y :=
  (c.ti.get t).bind fun i => bif i.agg then (sub cs off i.size).map .agg else (cs[off]?).map .v

def placeOf (c : Ctx) (d : TD) (i : Nat) : Option (Nat × Nat) :=
  match d with
  | .struct fs => (fs[i]?).bind fun p => (c.ti.get p.2).map fun ti => (p.1, ti.size)
  | .array _ e => (c.ti.get e).map fun ti => (i * ti.size, ti.size)
  | _ => none

def fillAll (c : Ctx) (d : TD) (cells : List V) : List (Nat × Y) → Option (List V)
  | [] => some cells
  | (i, y) :: rest =>
    (placeOf c d i).bind fun p =>
    bif Nat.beq y.cells.length p.2 && Nat.ble (p.1 + p.2) cells.length then fillAll c d (setAt cells p.1 y.cells) rest else none

def buildable (c : Ctx) : TD → Bool
  | .struct _ => true
  | .array _ e => (c.ti.get e).isSome
  | _ => false

def evParts (env : Env) : List (Nat × Operand) → Option (List (Nat × Y))
  | [] => some []
  | (i, x) :: rest =>
    match env.ev x with
    | .y y => (evParts env rest).map ((i, y) :: ·)
    | .tup _ => none

def evArgs (env : Env) : List Operand → Option (List Y)
  | [] => some []
  | x :: rest =>
    match env.ev x with
    | .y y => (evArgs env rest).map (y :: ·)
    | .tup _ => none

def evPtrs (env : Env) : List Operand → Option (List (Nat × Nat))
  | [] => some []
  | x :: rest =>
    match env.ev x with
    | .y (.v (.ptr b o)) => (evPtrs env rest).map ((b, o) :: ·)
    | _ => none

def minMaxF (lt : Int → Int → Bool) (k : IntKind) (a : Int) : List Y → Option V
  | [] => some (.int k a)
  | .v (.int k' b) :: rest => bif IntKind.beqV k k' then minMaxF lt k (bif lt b a then b else a) rest else none
  | _ => none

def minMax (lt : Int → Int → Bool) : List Y → Option V
  | .v (.int k a) :: rest => minMaxF lt k a rest
  | _ => none

def ptrs (l : List (Nat × Nat)) : List Y := l.map fun p => .v (.ptr p.1 p.2)

end
end Go.Abs
