/- The abstract interpreter: operations, regions, code, calls. Definitions alone. -/
import Derived.Test.YtadhbmnpokmgcaaGreatDoorA0
namespace Go.Abs
open Go
noncomputable section

/-- What a region's code may ask of its surroundings: a call of a function, a round of a loop over a function. -/
structure Rec where
  call : FuncId → List Y → H → Res
  round : Nat → List Y → H → Res

def callV (r : Rec) (f : X) (args : List Y) (h : H) : Res :=
  match f with
  | .y (.v (.func g first cap)) => r.call g (ptrs first ++ args ++ ptrs cap) h
  | .y (.v (.yield l)) => r.round l args h
  | _ => .fail

/-- Does a type stand for bytes? -/
def isU8 (c : Ctx) (e : Nat) : Bool := match c.ti.get e with | some i => (match i.d with | .int .u8 => true | _ => false) | none => false

/-- Does a conversion make a text of bytes? -/
def toText (c : Ctx) (s d : Nat) : Bool :=
  match c.ti.get s, c.ti.get d with
  | some si, some di => match si.d, di.d with
    | .slice e, .str => isU8 c e
    | _, _ => false
  | _, _ => false

def isMapT (c : Ctx) (t : Nat) : Bool := match c.ti.get t with | some i => (match i.d with | .map _ _ => true | _ => false) | none => false

def sliceLen : V → Option Nat
  | .nils => some 0
  | .slice _ _ n _ _ => some n
  | _ => none

/-- An operation that only reads memory: what it gives in memory h. -/
def readOp (c : Ctx) (h : H) (env : Env) (o : Op) : Option X :=
  match o with
  | .load t a =>
    match env.ev a with
    | .y (.v (.ptr b off)) => (loadY c h t b off).map .y
    | _ => none
  | .lookup t m k ok =>
    match env.ev m, env.ev k with
    | .y (.v m), .y k => lookupOp c h t m k ok
    | _, _ => none
  | .convert s d x =>
    match env.ev x with
    | .y (.v v) =>
      bif toText c s d then (sliceLen v).bind fun n => (firstCells h 1 n v).bind fun cs => (bytesOf cs).map fun l => .y (.v (.str l)) else none
    | _ => none
  | .call c' =>
    match c'.callee, c'.args.toList, c'.argTypes.toList with
    | .builtin .len, [x], t :: _ =>
      bif isMapT c t then
        match env.ev x with
        | .y (.v .nilm) => some (.y (.v (.int .i64 0)))
        | .y (.v (.map b)) => (getMap h b).map fun p => .y (.v (.int .i64 (.ofNat p.1.length)))
        | _ => none
      else none
    | _, _, _ => none
  | _ => none
where
  bytesOf : List V → Option (List UInt8)
    | [] => some []
    | .int .u8 (.ofNat n) :: rest => bif Nat.blt n 256 then (bytesOf rest).map (UInt8.ofNat n :: ·) else none
    | _ => none

/-- The kinds of operations: what needs no memory, what reads, what lays a block, what does something. -/
inductive Kind where
  | calm | reads | lays | does
  deriving DecidableEq

def isSliceT (c : Ctx) (t : Nat) : Bool := match c.ti.get t with | some i => (match i.d with | .slice _ => true | _ => false) | none => false
def isIntT (c : Ctx) (t : Nat) : Bool := match c.ti.get t with | some i => (match i.d with | .int _ => true | _ => false) | none => false
def isSeqT (c : Ctx) (t : Nat) : Bool := match c.ti.get t with | some i => (match i.d with | .slice _ => true | .str => true | _ => false) | none => false
def elemT (c : Ctx) (t : Nat) : Option Nat := (c.ti.get t).bind fun i => match i.d with | .slice e => some e | _ => none

def kindOf (c : Ctx) (o : Op) : Kind :=
  match o with
  | .load _ _ => .reads
  | .lookup _ _ _ _ => .reads
  | .convert s d _ => bif isSliceT c s then .reads else bif isSliceT c d then .lays else .calm
  | .call c' =>
    match c'.callee with
    | .builtin .len => bif isMapT c (c'.argTypes.toList.headD 0) then .reads else .calm
    | .builtin .cap => .calm
    | .builtin .min => .calm
    | .builtin .max => .calm
    | _ => .does
  | .alloc _ => .lays
  | .box _ _ => .lays
  | .buildSlice _ _ _ => .lays
  | .makeMap _ _ => .lays
  | .makeSlice _ _ _ => .lays
  | .store _ _ _ => .does
  | .mapUpdate _ _ _ _ => .does
  | .insert _ _ _ _ => .does
  | .range _ _ => .does
  | .next _ _ => .does
  | .entry _ => .does
  | _ => .calm

/-- An operation that needs no memory. -/
def calmOp (c : Ctx) (env : Env) (o : Op) : T X :=
  match o with
  | .move x => .ret (env.ev x)
  | .assign x => .ret (env.ev x)
  | .pick p a b => (env.ev p).kv fun
    | .bool true => .ret (env.ev a)
    | .bool false => .ret (env.ev b)
    | _ => .fail
  | .build t ps =>
    okO (c.ti.get t) fun i => okO (evParts env ps.toList) fun l => okO (fillAll c i.d i.zero l) fun cs =>
    guardT (i.agg && buildable c i.d) <| .ret (.y (.agg cs))
  | .nilCheck x => (env.ev x).kv fun
    | .ptr b o => .ret (.y (.v (.ptr b o)))
    | .func f a b => .ret (.y (.v (.func f a b)))
    | _ => .fail
  | .binOp op t x y _ =>
    match env.ev x, env.ev y with
    | .y x, .y y => okO (binOp c op t x y) fun v => .ret (.y (.v v))
    | _, _ => .fail
  | .unOp op _ x => (env.ev x).kv fun v =>
    match op, v with
    | .not, .bool b => .ret (.y (.v (.bool !b)))
    | .neg, .int k n => .ret (.y (.v (.int k (wrapV k (0 - n)))))
    | _, _ => .fail
  | .convert s d x => (env.ev x).kv fun v => okO (convA c s d v) fun v => .ret (.y (.v v))
  | .makeFunc (.func f) first cap =>
    okO (evPtrs env first.toList) fun a => okO (evPtrs env cap.toList) fun b => .ret (.y (.v (.func f a b)))
  | .slice t x lo hi mx => (env.ev x).kv fun v => (sliceOp c t v (lo.map env.ev) (hi.map env.ev) (mx.map env.ev)).bind fun v => .ret (.y (.v v))
  | .fieldAddr s x f => (env.ev x).kv fun
    | .ptr b o => okO (fieldOff c s f) fun p => .ret (.y (.v (.ptr b (o + p.1))))
    | _ => .fail
  | .field s x f => (env.ev x).k fun
    | .agg cs => okO (fieldOff c s f) fun p => okO (partOf c p.2 cs p.1) fun y => .ret (.y y)
    | _ => .fail
  | .indexAddr t x i => (env.ev i).kv fun iv => iv.knat fun n => (env.ev x).kv fun v => okO (c.ti.get t) fun ti =>
    match ti.d, v with
    | .array m e, .ptr b o => okO (c.ti.get e) fun ei => guardT (Nat.blt n m) <| .ret (.y (.v (.ptr b (o + n * ei.size))))
    | .slice e, .slice b o len _ _ => okO (c.ti.get e) fun ei => guardT (Nat.blt n len) <| .ret (.y (.v (.ptr b (o + n * ei.size))))
    | _, _ => .fail
  | .index t x i => (env.ev i).kv fun iv => iv.knat fun n => (env.ev x).k fun y => okO (c.ti.get t) fun ti =>
    match ti.d, y with
    | .array m e, .agg cs => okO (c.ti.get e) fun ei => guardT (Nat.blt n m) <| okO (partOf c e cs (n * ei.size)) fun y => .ret (.y y)
    | .str, .v (.str s) => okO s[n]? fun b => .ret (.y (.v (.int .u8 (.ofNat b.toNat))))
    | _, _ => .fail
  | .extract x i =>
    match env.ev x with
    | .tup ys => okO ys[i]? fun y => .ret (.y y)
    | _ => .fail
  | .call c' =>
    match c'.callee, c'.args.toList, c'.argTypes.toList with
    | .builtin .len, [x], t :: _ =>
      okO (c.ti.get t) fun ti =>
      match ti.d with
      | .array n _ => .ret (.y (.v (.int .i64 (.ofNat n))))
      | .slice _ => (env.ev x).kv fun v => okO (sliceLen v) fun n => .ret (.y (.v (.int .i64 (.ofNat n))))
      | .str => (env.ev x).kv fun
        | .str s => .ret (.y (.v (.int .i64 (.ofNat s.length))))
        | _ => .fail
      | _ => .fail
    | .builtin .cap, [x], t :: _ => guardT (isSliceT c t) <| (env.ev x).kv fun
      | .nils => .ret (.y (.v (.int .i64 0)))
      | .slice _ _ _ cap 0 => .ret (.y (.v (.int .i64 (.ofNat cap))))
      | .slice _ _ _ cap (_ + 1) => .ret (.y (.v (.capGe cap)))
      | _ => .fail
    | .builtin .min, l, _ => okO (evArgs env l) fun ys => okO (minMax intLt ys) fun v => .ret (.y (.v v))
    | .builtin .max, l, _ => okO (evArgs env l) fun ys => okO (minMax (fun a b => intLt b a) ys) fun v => .ret (.y (.v v))
    | _, _, _ => .fail
  | _ => .fail

/-- The block that an operation lays, and how it is told from then on. -/
def laysOp (c : Ctx) (env : Env) (next : Nat) (o : Op) : T (V × O) :=
  match o with
  | .alloc t => okO (c.ti.get t) fun i => .ret (.ptr next 0, .cells i.zero false)
  | .box t x => okO (c.ti.get t) fun _ => (env.ev x).k fun y => .ret (.ptr next 0, .cells y.cells false)
  | .buildSlice t len ps =>
    okO (elemT c t) fun e => okO (c.ti.get e) fun ei => okO (evParts env ps.toList) fun l =>
    guardT (Nat.ble (len * ei.size) 16777216) <|
    okO (fillAll c (.array len e) (rep ei.zero len) l) fun cs => .ret (.slice next 0 len len 0, .cells cs false)
  | .makeMap t none => okO (c.ti.get t) fun _ => .ret (.map next, .map [] 0)
  | .makeSlice t l m =>
    okO (elemT c t) fun e => okO (c.ti.get e) fun ei => (env.ev l).kv fun lv => lv.knat fun ln => (env.ev m).kv fun mv => mv.knat fun mn =>
    guardT (Nat.ble ln mn && Nat.ble (ei.bytes * mn) 281474976710656 && Nat.ble mn 281474976710656) <| .ret (.slice next 0 ln mn 0, .cells (rep ei.zero mn) false)
  | .convert s d x =>
    okO (c.ti.get s) fun _ => okO (elemT c d) fun e => guardT (isU8 c e) <| (env.ev x).kv fun
    | .str s => .ret (.slice next 0 s.length s.length 1, .cells (s.map fun b => V.int .u8 (.ofNat b.toNat)) false)
    | _ => .fail
  | _ => .fail

/-- A loop over a text or a map begins. -/
def rangeOp (c : Ctx) (h : H) (t : Nat) (v : V) : Res :=
  okO (c.ti.get t) fun i =>
    match i.d, v with
    | .str, .str s => rV (.ptr h.next 0) (h.new (.siter s 0))
    | .map _ _, .nilm => rV (.ptr h.next 0) (h.new (.miter none 0 [] 0))
    | .map _ _, .map m => okO (getMap h m) fun p => rV (.ptr h.next 0) (h.new (.miter (some m) p.2 [] p.2))
    | _, _ => .fail

/-- Its next round. -/
def nextOp (h : H) (b : Nat) (isStr : Bool) : Res :=
  match h.get b with
  | some (.siter s pos) =>
    guardT isStr <|
    match s[pos]? with
    | none => .ret (.tup [.v (.bool false)], h)
    | some _ =>
      match Utf8.decode ⟨⟨s⟩⟩ pos with
      | (cp, width) => .ret (.tup [.v (.bool true), .v (.int .i64 (.ofNat pos)), .v (.int .i32 (.ofNat cp))], h.put b (.siter s (pos + width)))
  | some (.miter none _ _ _) => guardT (!isStr) <| .ret (.tup [.v (.bool false)], h)
  | some (.miter (some m) since seen last) =>
    guardT (!isStr) <| okO (getMap h m) fun p =>
    guardT (Nat.beq p.2 since && Nat.beq last since && p.1.all (fun e => Nat.blt e.2.2 since)) <|
    match p.1.filter (fun e => !seen.elem e.2.2) with
    | [] => .ret (.tup [.v (.bool false)], h)
    | e :: es => .ask (Nat.succ es.length) fun i => okO (e :: es)[i]? fun e => .ret (.tup [.v (.bool true), e.1, e.2.1], h.put b (.miter (some m) since (seen ++ [e.2.2]) since))
  | _ => .fail

/-- The round's key and value. -/
def entryOp (h : H) (b : Nat) : Res :=
  match h.get b with
  | some (.miter (some m) since seen last) =>
    okO (getMap h m) fun p => guardT (Nat.beq p.2 last && Nat.beq last since) <|
    okO (p.1.find? (fun e => some e.2.2 == seen.getLast?)) fun e => .ret (.tup [e.1, e.2.1], h)
  | _ => .fail

def copyOp (c : Ctx) (h : H) (e : Nat) (d s : V) : Res :=
  okO (c.ti.get e) fun ei => okO (lenOf d) fun dl => okO (lenOf s) fun sl =>
  okO (firstCells h ei.size (Nat.min sl dl) s) fun cs =>
  match d with
  | .slice db dof _ _ opn => bif Nat.beq (Nat.min sl dl) 0 then rV (.int .i64 0) h else
    okO (bif Nat.beq opn 0 then putCells h db dof cs else bif Nat.beq opn ei.size && Nat.beq cs.length (Nat.min sl dl * ei.size) then putOver h db dof cs else none) fun h' => rV (.int .i64 (.ofNat (Nat.min sl dl))) h'
  | .nils => rV (.int .i64 0) h
  | _ => .fail

def clearOp (c : Ctx) (h : H) (e : Nat) (s : V) : Res :=
  match s with
  | .slice b o n _ _ => okO (c.ti.get e) fun ei => bif Nat.beq n 0 then .ret (undefX, h) else okO (putCells h b o (rep ei.zero n)) fun h' => .ret (undefX, h')
  | .nils => .ret (undefX, h)
  | _ => .fail

def builtinOp (c : Ctx) (h : H) (b : Builtin) (args : List Y) (ts : List Nat) : Res :=
  match b, args, ts with
  | .append, [.v s, .v x], [t, u] => okO (elemT c t) fun e => bif isIntT c u then appendMade c h e s x else guardT (isSeqT c u) <| appendOp c h e s x
  | .copy, [.v d, .v s], t :: _ => okO (elemT c t) fun e => copyOp c h e d s
  | .delete, [.v m, k], t :: _ => okO (deleteOp c h t m k) fun h' => .ret (undefX, h')
  | .clear, [.v s], t :: _ => okO (elemT c t) fun e => clearOp c h e s
  | _, _, _ => .fail

/-- An operation that does something. -/
def doesOp (c : Ctx) (r : Rec) (env : Env) (h : H) (o : Op) : Res :=
  match o with
  | .store t a x => (env.ev a).kv fun
    | .ptr b off => (env.ev x).k fun y => okO (c.ti.get t) fun i => guardT (Nat.beq y.cells.length i.size) <| okO (putCells h b off y.cells) fun h' => .ret (undefX, h')
    | _ => .fail
  | .mapUpdate t m k x => (env.ev m).kv fun mv => (env.ev k).k fun ky => (env.ev x).k fun xy => okO (mapUpdateOp c h t mv ky xy) fun h' => .ret (undefX, h')
  | .insert t m k x => (env.ev m).kv fun mv => (env.ev k).k fun ky => (env.ev x).k fun xy => okO (mapUpdateOp c h t mv ky xy) fun h' => .ret (undefX, h')
  | .range t x => (env.ev x).kv fun v => rangeOp c h t v
  | .next x isStr => (env.ev x).kv fun
    | .ptr b 0 => nextOp h b isStr
    | _ => .fail
  | .entry x => (env.ev x).kv fun
    | .ptr b 0 => entryOp h b
    | _ => .fail
  | .call c' =>
    match c'.callee with
    | .value f => okO (evArgs env c'.args.toList) fun args => callV r (env.ev f) args h
    | .builtin b => okO (evArgs env c'.args.toList) fun args => builtinOp c h b args c'.argTypes.toList
    | .invoke _ _ => .fail
  | _ => .fail

/-- An operation, in memory. -/
def runOp (c : Ctx) (r : Rec) (env : Env) (h : H) (o : Op) : Res :=
  match kindOf c o with
  | .calm => (calmOp c env o).bind fun x => .ret (x, h)
  | .reads => okO (readOp c h env o) fun x => .ret (x, h)
  | .lays => (laysOp c env h.next o).bind fun p => rV p.1 (h.new p.2)
  | .does => doesOp c r env h o

/-- Is an operation wanted? -/
def wantedV (ops : List Oper) (env : Env) (o : Oper) : Option Bool :=
  match o.guard with
  | none => some true
  | some (j, want) =>
    match ops[j]? with
    | some oj =>
      match oj.dst with
      | some d =>
        match env.get d with
        | .y (.v (.bool b)) => some (match b, want with | true, true => true | false, false => true | _, _ => false)
        | .y (.v .bad) => none
        | _ => some false
      | none => some false
    | none => some false

/-- The operations of a region, in the order of the text. -/
def runOps (c : Ctx) (r : Rec) (ops : List Oper) (l : List Oper) : Env → H → T (Env × H) :=
  List.rec (motive := fun _ => Env → H → T (Env × H)) (fun env h => .ret (env, h))
    (fun o _ ih env h =>
      okO (wantedV ops env o) fun b =>
      bif b then (runOp c r env h o.op).bind fun p => ih (env.putD o.dst p.1) p.2
      else ih (env.putD o.dst undefX) h) l

/-! ### A region whose order is open -/
def T.opt {α : Type} (t : T α) : Option α :=
  match t with
  | .ret a => some a
  | _ => none

/-- The block that a reading looks into. -/
def blockOf (env : Env) (o : Op) : Option Nat :=
  match o with
  | .load _ a => match env.ev a with | .y (.v (.ptr b _)) => some b | _ => none
  | .lookup _ m _ _ => match env.ev m with | .y (.v (.map b)) => some b | _ => none
  | .convert _ _ x => match env.ev x with | .y (.v (.slice b _ _ _ _)) => some b | _ => none
  | .call c' => match c'.args.toList with | [x] => (match env.ev x with | .y (.v (.map b)) => some b | _ => none) | _ => none
  | _ => none

/-- An operation at its place: the environment and memory ahead of it, what it gives, memory behind it. -/
structure Step where
  o : Oper
  env : Env
  h : H
  x : X
  h' : H

/-- An operation at place i of a region whose blocks' names begin at base. -/
def drawStep (c : Ctx) (r : Rec) (ops : List Oper) (base i : Nat) (env : Env) (h : H) (o : Oper) : Option (X × H) :=
  (wantedV ops env o).bind fun b =>
  bif b then
    match kindOf c o.op with
    | .does => (doesOp c r env h o.op).opt
    | .reads => (readOp c h env o.op).map fun x => (x, h)
    | .calm => (calmOp c env o.op).opt.map fun x => (x, h)
    | .lays => (laysOp c env (base + i) o.op).opt.map fun p => (.y (.v p.1), h.put (base + i) p.2)
  else some (undefX, h)

/-- The operations in the order of the text. -/
def drawOps (c : Ctx) (r : Rec) (ops : List Oper) (base : Nat) (l : List Oper) : Nat → Env → H → Option (List Step × Env × H) :=
  List.rec (motive := fun _ => Nat → Env → H → Option (List Step × Env × H)) (fun _ env h => some ([], env, h))
    (fun o _ ih i env h =>
      (drawStep c r ops base i env h o).bind fun p =>
      (ih (Nat.succ i) (env.putD o.dst p.1) p.2).map fun (q : List Step × Env × H) => (⟨o, env, h, p.1, p.2⟩ :: q.1, q.2)) l

/-- Memory at a region's places: ahead of each operation that does something, and at the end; with the places. -/
def snapsOf (c : Ctx) (l : List Step) (i : Nat) (hN : H) : List (Nat × H) :=
  match l with
  | [] => [(i, hN)]
  | s :: l => bif decide (kindOf c s.o.op = .does) then (i, s.h) :: snapsOf c l (Nat.succ i) hN else snapsOf c l (Nat.succ i) hN

/-- Memory in which a reading of block b is looked at, for a place p: there, or where the block is laid. -/
def lookAt (all : List Step) (base b : Nat) (s : Nat × H) : Option H :=
  bif Nat.ble base b && Nat.blt s.1 (b - base) then (all[b - base]?).map fun t => t.h' else some s.2

def stableAt (c : Ctx) (all : List Step) (base b : Nat) (s : Step) : List (Nat × H) → Bool
  | [] => true
  | p :: ps =>
    (match lookAt all base b p with
      | some h => (match readOp c h s.env s.o.op with | some x => decide (x = s.x) | none => false)
      | none => false) && stableAt c all base b s ps

def planOf (p : Plan) (i : Nat) : Option (Nat × Nat) :=
  match p with
  | [] => none
  | (j, lo, hi) :: rest => bif Nat.beq i j then some (lo, hi) else planOf rest i

def stable (c : Ctx) (p : Plan) (ops : List Oper) (all : List Step) (snaps : List (Nat × H)) (base : Nat) (l : List Step) (i : Nat) : Bool :=
  match l with
  | [] => true
  | s :: ss =>
    (bif decide (kindOf c s.o.op = .reads) && decide (wantedV ops s.env s.o = some true) then
      match planOf p i, blockOf s.env s.o.op with
      | some _, none => true
      | some (lo, hi), some b => stableAt c all base b s ((snaps.drop lo).take (hi + 1 - lo))
      | none, _ => false
    else true) && stable c p ops all snaps base ss (Nat.succ i)

def drawRegion (c : Ctx) (r : Rec) (p : Plan) (ops : List Oper) (env : Env) (h : H) : Option (Env × H) :=
  (drawOps c r ops h.next ops 0 env { h with next := h.next + ops.length }).bind fun q =>
  bif stable c p ops q.1 (snapsOf c q.1 0 q.2.2) h.next q.1 0 then some q.2 else none

/-! ### Code -/
inductive Ex where
  | normal
  | exit (id : Nat)
  | goto (l : Nat)
  | ret
  deriving DecidableEq

abbrev CRes := T (Ex × Env × H)

def loopC (body : Env → H → CRes) (fuel : Nat) : Env → H → CRes :=
  Nat.rec (motive := fun _ => Env → H → CRes) (fun _ _ => .fail)
    (fun _ ih env h => (body env h).bind fun p =>
      match p.1 with
      | .normal => ih p.2.1 p.2.2
      | _ => .ret p) fuel

/-- Where a loop over a function begins: its record's block, the block for the calls that its rounds defer, memory. -/
def enterC (rd : Option Nat) (env : Env) (fn : FuncId) (params : List Nat) (assign body : Code) (h : H) : T (Nat × Env × H) :=
  match rd with
  | none =>
    let h1 := h.new .defer
    .ret (h1.next, { env with marks := h.next :: env.marks }, h1.new (.loop ⟨.ready, none, env.t, env.n, params, assign, body, h.next, fn⟩))
  | some l =>
    match h.get l with
    | some (.loop r) => .ret (h.next, env, h.new (.loop ⟨.ready, none, env.t, env.n, params, assign, body, r.defers, fn⟩))
    | _ => .fail

/-- Is the function ranged over one with code? -/
def fnPlain (c : Ctx) (x : X) : Bool :=
  match x with
  | .y (.v (.func g _ _)) => (c.prim g).isNone
  | _ => false

def jumpC : Code → Option Ex
  | .ret => some .ret
  | .exit id => some (.exit id)
  | .goto l => some (.goto l)
  | _ => none

/-- Code, in an activation: fuel bounds the rounds of each loop; rd: the round's record, if the activation is a round. -/
def runC (c : Ctx) (r : Rec) (fuel : Nat) (fn : FuncId) (plans : Tr Plan) (rd : Option Nat) (go : Code → Code → Env → H → CRes) (code : Code) : Env → H → CRes :=
  Code.rec (motive := fun _ => Env → H → CRes)
    (skip := fun env h => .ret (.normal, env, h))
    (region := fun id ops draw env h =>
      bif draw then okO (plans.get id) fun p => okO (drawRegion c r p ops.toList env h) fun q => .ret (.normal, q)
      else (runOps c r ops.toList ops.toList env h).bind fun p => .ret (.normal, p.1, p.2))
    (seq := fun _ _ iha ihb env h => (iha env h).bind fun p =>
      match p.1 with
      | .normal => ihb p.2.1 p.2.2
      | _ => .ret p)
    (cond := fun x _ _ iha ihb env h =>
      match env.ev x with
      | .y (.v (.bool true)) => iha env h
      | .y (.v (.bool false)) => ihb env h
      | _ => .fail)
    (block := fun id _ ih env h => (ih env h).bind fun p =>
      match p.1 with
      | .exit id' => bif Nat.beq id' id then .ret (.normal, p.2) else .ret p
      | _ => .ret p)
    (loop := fun _ ih env h => loopC ih fuel env h)
    (rangeFunc := fun f params assign body _ _ env h =>
      guardT (fnPlain c (env.ev f)) <| (enterC rd env fn params.toList assign body h).bind fun q =>
      (callV r (env.ev f) [.v (.yield q.1)] q.2.2).bind fun p =>
      match p.2.get q.1 with
      | some (.loop lr) =>
        guardT (decide (lr.state ≠ .busy)) <|
        let h3 := p.2.put q.1 (.loop { lr with state := .exhausted })
        match lr.pending with
        | none => .ret (.normal, q.2.1, h3)
        | some j => okO (jumpC j) fun e => .ret (e, q.2.1, h3)
      | _ => .fail)
    (exit := fun id env h => .ret (.exit id, env, h))
    (scope := fun b ih env h => (ih env h).bind fun p =>
      match p.1 with
      | .goto l =>
        match findLabel b l with
        | some rest => go b rest p.2.1 p.2.2
        | none => .ret p
      | _ => .ret p)
    (label := fun _ env h => .ret (.normal, env, h))
    (goto := fun l env h => .ret (.goto l, env, h))
    (ret := fun env h => .ret (.ret, env, h))
    (refuse := fun _ _ _ => .fail)
    code

/-- On behind a jump within a scope's text. -/
def scopeN (c : Ctx) (r : Rec) (fuel : Nat) (fn : FuncId) (plans : Tr Plan) (rd : Option Nat) (n : Nat) : Code → Code → Env → H → CRes :=
  Nat.rec (motive := fun _ => Code → Code → Env → H → CRes) (fun _ _ _ _ => .fail)
    (fun _ ih whole code env h => (runC c r fuel fn plans rd ih code env h).bind fun p =>
      match p.1 with
      | .goto l =>
        match findLabel whole l with
        | some rest => ih whole rest p.2.1 p.2.2
        | none => .ret p
      | _ => .ret p) n

def body (c : Ctx) (r : Rec) (fuel : Nat) (fn : FuncId) (plans : Tr Plan) (rd : Option Nat) (code : Code) (env : Env) (h : H) : CRes :=
  runC c r fuel fn plans rd (scopeN c r fuel fn plans rd fuel) code env h

/-! ### Calls -/
def mkEnv (n : Nat) (args : List Y) : Env :=
  let rec go : List Y → Nat → Tr X → Tr X
    | [], _, t => t
    | y :: ys, i, t => go ys (Nat.succ i) (t.set i (some (.y y)))
  { t := go args 0 .e, n := args.length + (n - args.length), marks := [] }

def resultOf (c : Ctx) (env : Env) (h : H) : ResultVar → Option Y
  | .tmp t => match env.get t with | .y y => some y | .tup _ => none
  | .cell a t => match env.get a with | .y (.v (.ptr b o)) => loadY c h t b o | _ => none

def resultsOf (c : Ctx) (env : Env) (h : H) : List ResultVar → Option (List Y)
  | [] => some []
  | r :: rs => (resultOf c env h r).bind fun y => (resultsOf c env h rs).map (y :: ·)

def packR : List Y → X
  | [y] => .y y
  | ys => .tup ys

/-- The blocks of deferred calls are shut, the last laid first. -/
def shutMarks (h : H) : List Nat → Option H
  | [] => some h
  | b :: bs => match h.get b with | some .defer => shutMarks (h.kill b) bs | _ => none

/-! All outcomes made one: what they tell alike stays, of memory too. -/
def sameO : O → O → Bool
  | .cells a r, .cells b s => decide (a = b) && (r == s)
  | .map a n, .map b m => decide (a = b) && Nat.beq n m
  | .defer, .defer => true
  | _, _ => false

def joinTr (t : Tr O) : Tr O → Tr O :=
  Tr.rec (motive := fun _ => Tr O → Tr O) (fun _ => .e)
    (fun x _ _ il ir u => Tr.casesOn (motive := fun _ => Tr O) u .e
      (fun y l r => .n (match x, y with | some a, some b => bif sameO a b then some a else none | _, _ => none) (il l) (ir r))) t

def leaves {α : Type} (t : T α) : Option (List α) :=
  T.rec (motive := fun _ => Option (List α)) (fun a => some [a]) none
    (fun n _ ih => Nat.rec (motive := fun _ => Option (List α)) (some []) (fun i r => r.bind fun l => (ih i).map (· ++ l)) n) t

def joinAll (x : X) (h : H) : List (X × H) → Option H
  | [] => some h
  | (y, g) :: rest => bif decide (x = y) then joinAll x { next := max h.next g.next, tr := joinTr h.tr g.tr } rest else none

def joinRes (t : Res) : Res :=
  match t with
  | .ret p => .ret p
  | t =>
    match leaves t with
    | some ((x, h) :: rest) => okO (joinAll x h rest) fun h' => .ret (x, h')
    | _ => .fail

def callF (c : Ctx) (fuel : Nat) (r : Rec) (f : FuncId) (args : List Y) (h : H) : Res :=
  match c.prim f with
  | some p => p args h
  | none =>
    okO (c.fi.get f) fun fi =>
    let t := (body c r fuel f fi.plans none fi.body (mkEnv fi.ntmps args) h).bind fun p =>
      match p.1 with
      | .exit _ => .fail
      | .goto _ => .fail
      | _ =>
        okO (resultsOf c p.2.1 p.2.2 fi.results) fun ys =>
        okO (shutMarks p.2.2 p.2.1.marks) fun h' => .ret (packR ys, h')
    bif fi.join then joinRes t else t

def jumpOf : Ex → Option Code
  | .normal => none
  | .ret => some .ret
  | .exit id => some (.exit id)
  | .goto l => some (.goto l)

def putParams (ps : List Nat) (args : List Y) (env : Env) : Option Env :=
  match ps, args with
  | [], [] => some env
  | p :: ps, a :: as => putParams ps as (env.put p (.y a))
  | _, _ => none

def roundF (c : Ctx) (fuel : Nat) (r : Rec) (l : Nat) (args : List Y) (h : H) : Res :=
  match h.get l with
  | some (.loop lr) =>
    okO (c.fi.get lr.fn) fun fi =>
    okO (putParams lr.params args { t := lr.env, n := lr.n, marks := [] }) fun env =>
    (body c r fuel lr.fn fi.plans (some l) lr.assign env h).bind fun p =>
    match p.1 with
    | .normal =>
      match p.2.2.get l with
      | some (.loop lr1) =>
        match lr1.state with
        | .ready =>
          (body c r fuel lr.fn fi.plans (some l) lr.body p.2.1 (p.2.2.put l (.loop { lr1 with state := .busy }))).bind fun q =>
          match q.2.2.get l with
          | some (.loop lr2) =>
            let j := jumpOf q.1
            .ret (.y (.v (.bool j.isNone)), q.2.2.put l (.loop { lr2 with state := bif j.isNone then .ready else .done, pending := j }))
          | _ => .fail
        | _ => .fail
      | _ => .fail
    | _ => .fail
  | _ => .fail

/-- Calls, n deep at most. -/
def recN (c : Ctx) (fuel : Nat) (n : Nat) : Rec :=
  Nat.rec (motive := fun _ => Rec) ⟨fun _ _ _ => .fail, fun _ _ _ => .fail⟩ (fun _ ih => ⟨callF c fuel ih, roundF c fuel ih⟩) n

def call (c : Ctx) (fuel n : Nat) (f : FuncId) (args : List Y) (h : H) : Res := (recN c fuel n).call f args h

end
end Go.Abs
