/- Calls of the library that the interpreter takes by what they come to. Definitions alone. -/
import Derived.Test.YtadhbmnpokmgcaaGreatDoorA1
namespace Go.Abs
open Go
noncomputable section

def joinL (sep : List UInt8) : List V → Option (List UInt8)
  | [] => some []
  | [.str x] => some x
  | .str x :: rest => (joinL sep rest).map fun l => x ++ (sep ++ l)
  | _ => none

/-- strings.Join. -/
def joinP (args : List Y) (h : H) : Res :=
  match args with
  | [.v .nils, .v (.str _)] => rV (.str []) h
  | [.v (.slice b o n _ _), .v (.str sep)] =>
    okO (getCells h b) fun cs => okO (sub cs o n) fun cs => okO (joinL sep cs) fun l =>
    guardT (Nat.ble l.length maxGrow && Nat.ble n maxGrow) <| rV (.str l) h
  | _ => .fail

/-- slices.overlaps, at rows of which the first may be written: whatever it says. -/
def overlapsP (args : List Y) (h : H) : Res :=
  match args with
  | [.v (.slice a oa _ _ _), .v (.slice b _ _ _ _)] =>
    match h.get a, h.get b with
    | some (.cells ca false), some (.cells _ _) => guardT (Nat.blt oa ca.length) <| .ask 2 fun i => rV (.bool (Nat.beq i 1)) h
    | _, _ => .fail
  | _ => .fail

def idxB (b : Nat) : List UInt8 → Nat → Int
  | [], _ => -1
  | x :: xs, i => bif Nat.beq x.toNat b then .ofNat i else idxB b xs (Nat.succ i)

/-- bytealg.IndexByteString. -/
def idxP (args : List Y) (h : H) : Res :=
  match args with
  | [.v (.str s), .v (.int .u8 (.ofNat b))] => guardT (Nat.blt b 256) <| rV (.int .i64 (idxB b s 0)) h
  | _ => .fail

def cntB (b : Nat) : List UInt8 → Nat → Nat
  | [], n => n
  | x :: xs, n => bif Nat.beq x.toNat b then cntB b xs (Nat.succ n) else cntB b xs n

/-- bytealg.CountString. -/
def cntP (args : List Y) (h : H) : Res :=
  match args with
  | [.v (.str s), .v (.int .u8 (.ofNat b))] => guardT (Nat.blt b 256) <| rV (.int .i64 (.ofNat (cntB b s 0))) h
  | _ => .fail

/-- The same values, without addresses. -/
def sameV : V → V → Bool
  | .bool true, .bool true => true
  | .bool false, .bool false => true
  | .int k a, .int l b => IntKind.beqV k l && intEq a b
  | .str a, .str b => bytesEq a b
  | .nilp, .nilp => true
  | .nils, .nils => true
  | .nilm, .nilm => true
  | .nilf, .nilf => true
  | _, _ => false
def sameVs : List V → List V → Bool
  | [], [] => true
  | a :: l, b :: m => sameV a b && sameVs l m
  | _, _ => false
def sameY : Y → Y → Bool
  | .v a, .v b => sameV a b
  | .agg l, .agg m => sameVs l m
  | _, _ => false
def sameYs : List Y → List Y → Bool
  | [], [] => true
  | a :: l, b :: m => sameY a b && sameYs l m
  | _, _ => false

/-! ### Calls that were run before -/
def findMemo : List (List Y × X) → List Y → Option X
  | [], _ => none
  | e :: l, ys => bif sameYs e.1 ys then some e.2 else findMemo l ys

def memoP (tbl : List (List Y × X)) (call : List Y → H → Res) (ys : List Y) (h : H) : Res :=
  match findMemo tbl ys with
  | some x => .ret (x, h)
  | none => call ys h

def emptyH : H := { next := 0, tr := .e }

/-- A closed run's end. -/
def closedRet (t : Res) (x : X) : Bool :=
  match t with
  | .ret p => decide (p.1 = x)
  | _ => false

/-- Two ends that are rows of the same cells, made one. -/
def joinRow (xa : X) (ha : H) (xb : X) (hb : H) : Res :=
  match xa, xb with
  | .y (.v (.slice ba oa la _ pa)), .y (.v (.slice bb ob lb _ pb)) =>
    match ha.get ba, hb.get bb with
    | some (.cells ca false), some (.cells cb false) =>
      match sub ca oa (la * pa), sub cb ob (lb * pb) with
      | some da, some db =>
        guardT (Nat.beq la lb && Nat.beq pa pb && Nat.ble 1 pa && decide (da = db)) <|
        .ret (.y (.v (.slice (max ha.next hb.next) 0 la la pa)), { next := Nat.succ (max ha.next hb.next), tr := (((joinTr ha.tr hb.tr).set ba none).set bb none).set (max ha.next hb.next) (some (.cells da false)) })
      | _, _ => .fail
    | _, _ => .fail
  | _, _ => .fail

def forkP (call : List Y → H → Res) (ys : List Y) (h : H) : Res :=
  match call ys h with
  | .fail =>
    match ys with
    | .v (.slice b o n cap opn) :: rest =>
      guardT (Nat.ble 1 opn && Nat.ble cap n) <|
      match (call (.v (.slice b o n n 0) :: rest) h).opt, (call (.v (.slice b o n (Nat.succ n) opn) :: rest) h).opt with
      | some p, some q => joinRow p.1 p.2 q.1 q.2
      | _, _ => .fail
    | _ => .fail
  | t => t

end
end Go.Abs
