/- The evaluator "Tame": a deterministic abstract interpreter of the model's code. Its values are trees, its memory is a table of blocks that
   have names; a slice whose capacity the tape has drawn is 'open'. It answers none wherever it cannot tell. -/
import GoSem.Claims
set_option linter.all false
namespace Go.Tame
open Go

/-! ### tables -/
inductive Tr (α : Type) where
  | nil
  | node (l : Tr α) (v : Option α) (r : Tr α)
  deriving Inhabited

def Tr.get {α : Type} : Tr α → Nat → Option α
  | .nil, _ => none
  | .node l v r, n =>
    match n with
    | 0 => v
    | k + 1 => bif Nat.beq (Nat.mod k 2) 0 then l.get (Nat.div k 2) else r.get (Nat.div k 2)

def Tr.put {α : Type} (v : Option α) : Nat → Tr α → Nat → Tr α
  | 0, t, _ => t
  | f + 1, .nil, n =>
    match n with
    | 0 => .node .nil v .nil
    | k + 1 => bif Nat.beq (Nat.mod k 2) 0 then .node (Tr.put v f .nil (Nat.div k 2)) none .nil else .node .nil none (Tr.put v f .nil (Nat.div k 2))
  | f + 1, .node l w r, n =>
    match n with
    | 0 => .node l v r
    | k + 1 => bif Nat.beq (Nat.mod k 2) 0 then .node (Tr.put v f l (Nat.div k 2)) w r else .node l w (Tr.put v f r (Nat.div k 2))

/-! ### values and blocks -/
inductive AV where
  | int (k : IntKind) (n : Int)
  | bool (b : Bool)
  | ptr (m off : Nat)
  | gptr (g off : Nat)
  | nilptr
  | slice (m off len cap : Nat) (opn : Bool)
  | empty                      -- a slice that is not nil, of length 0; where it begins and its capacity are not known
  | nilslice
  | map (m : Nat)
  | nilmap
  | func (f : FuncId) (first caps : List AV)
  | yield (m : Nat)
  | nilfunc
  | niliface
  | iface (t : TypeId) (v : AV)
  | agg (cs : List AV)
  | tup (vs : List AV)
  | con (v : Value)
  deriving Inhabited

abbrev Env := Tr AV

/-- how a stretch of code ends -/
inductive Out where
  | normal | exit (id : Nat) | ret
  deriving Inhabited, DecidableEq

inductive Blk where
  | cells (elem : TypeId) (cs : List AV)
  | map (es : List (AV × AV × Nat)) (clock : Nat)
  | iter (m : Option Nat) (since : Nat) (seen : List Nat) (stepped : Nat)
  | loop (fn : FuncId) (st : LoopState) (pend : Option Out) (sz : Nat) (t : Env) (ps : List Nat) (assign body : Code) (dfr : Nat)
  | dfr
  deriving Inhabited

abbrev Heap := Tr Blk

/-! ### what is known of types and functions -/
inductive TD where
  | bool | int (k : IntKind) | string
  | ptr (e : TypeId) | slice (e : TypeId) | arr (n : Nat) (e : TypeId) | map (k e : TypeId)
  | struct (fs : List (Nat × TypeId × Bool))        -- offset, type, is its name '_'?
  | func | iface | other | unsafe_
  deriving Inhabited

structure TI where
  d : TD
  size : Nat
  bytes : Nat
  zero : List AV
  plainEq : Bool      -- of an aggregate type: its == is the parts' alone
  deriving Inhabited

/-- functions without a body, that the model answers -/
inductive Xt where
  | mark | markAt | store | loadI (k : IntKind) | addI (k : IntKind) | casI (k : IntKind) | mapClone | overlaps (size : Nat) (t : TypeId)
  deriving Inhabited

/-- of one operation of a region whose order is drawn: its class (0: it does not look at memory; 1: it only looks; 2: it may write), at how many writers done it may come up (lo to hi),
    the operations whose new blocks it needs; and of an operation that makes a block: by which writer, counted from 0, that block is first needed -/
structure PI where
  cls : Nat
  lo : Nat
  hi : Nat
  cp : Nat
  needs : List Nat

abbrev Plan := List PI

structure Tab where
  types : Tr TI
  funcs : Tr Func
  exts : Tr Xt
  globs : Tr (List AV)
  plans : Tr (Tr Plan)     -- by function, by region

abbrev D : Nat := 40

def isAggD : TD → Bool
  | .arr .. | .struct .. => true
  | _ => false

def AV.cells : AV → List AV
  | .agg cs => cs
  | v => [v]

def leafV : Value → Bool
  | .agg _ | .tuple _ => false
  | _ => true

def AV.leaf : AV → Bool
  | .agg _ | .tup _ => false
  | .con v => leafV v
  | _ => true

def ofLeaf : Value → AV
  | .int k n => .int k n
  | .bool b => .bool b
  | .pointer none => .nilptr
  | .slice none 0 0 => .nilslice
  | .map none => .nilmap
  | .nilFunc => .nilfunc
  | .nilIface => .niliface
  | v => .con v

def ofValue : Value → AV
  | .agg cs => .agg (cs.toList.map ofLeaf)
  | .tuple vs => .tup (vs.toList.map ofLeaf)
  | v => ofLeaf v

def constOk : Value → Bool
  | .agg cs => cs.toList.all leafV
  | .tuple vs => vs.toList.all leafV
  | _ => true

def val (t : Env) : Operand → Option AV
  | .tmp i => t.get i
  | .const v => bif constOk v then some (ofValue v) else none
  | .global g => some (.gptr g 0)
  | .func f => some (.func f [] [])

def vals (t : Env) : List Operand → Option (List AV)
  | [] => some []
  | x :: xs => match val t x with
    | none => none
    | some v => match vals t xs with
      | none => none
      | some vs => some (v :: vs)

/-! ### lists -/
def nth {α : Type} : List α → Nat → Option α
  | [], _ => none
  | x :: xs, n => match n with
    | 0 => some x
    | k + 1 => nth xs k

def takeN {α : Type} : Nat → List α → Option (List α)
  | 0, _ => some []
  | _ + 1, [] => none
  | n + 1, x :: xs => match takeN n xs with
    | none => none
    | some ys => some (x :: ys)

def dropN {α : Type} : Nat → List α → Option (List α)
  | 0, xs => some xs
  | _ + 1, [] => none
  | n + 1, _ :: xs => dropN n xs

/-- the cells off .. off + n -/
def cut {α : Type} (cs : List α) (off n : Nat) : Option (List α) :=
  match dropN off cs with
  | none => none
  | some r => takeN n r

/-- new cells laid over old ones from off on -/
def over {α : Type} : Nat → List α → List α → Option (List α)
  | _, cs, [] => some cs
  | 0, _ :: cs, v :: vs => match over 0 cs vs with
    | none => none
    | some r => some (v :: r)
  | 0, [], _ :: _ => none
  | n + 1, c :: cs, v :: vs => match over n cs (v :: vs) with
    | none => none
    | some r => some (c :: r)
  | _ + 1, [], _ :: _ => none

def rep {α : Type} (z : List α) : Nat → List α
  | 0 => []
  | n + 1 => z ++ rep z n

def allLeaf : List AV → Bool
  | [] => true
  | c :: cs => c.leaf && allLeaf cs

/-! ### memory -/
def lookCells (T : Tab) (h : Heap) : AV → Option (List AV × Nat)
  | .ptr m off => match h.get m with
    | some (.cells _ cs) => some (cs, off)
    | _ => none
  | .gptr g off => match T.globs.get g with
    | some cs => some (cs, off)
    | none => none
  | _ => none

def loadA (T : Tab) (h : Heap) (t : TypeId) (a : AV) : Option AV :=
  match T.types.get t, lookCells T h a with
  | some ti, some (cs, off) =>
    bif isAggD ti.d then (match cut cs off ti.size with
      | some xs => some (.agg xs)
      | none => none)
    else nth cs off
  | _, _ => none

/-- a block turned, or taken away -/
def upd (h : Heap) (m : Nat) (b : Option Blk) : Option Heap :=
  bif Nat.blt m 1000000000 then some (Tr.put b D h m) else none

def storeCellsA (h : Heap) (m off : Nat) (vs : List AV) : Option Heap :=
  match h.get m with
  | some (.cells e cs) => bif allLeaf vs then (match over off cs vs with
      | some cs' => upd h m (some (.cells e cs'))
      | none => none) else none
  | _ => none

def storeA (T : Tab) (h : Heap) (t : TypeId) (a v : AV) : Option Heap :=
  match T.types.get t, a with
  | some ti, .ptr m off => bif Nat.beq v.cells.length ti.size then storeCellsA h m off v.cells else none
  | _, _ => none

/-- a new block -/
def newA (h : Heap) (nx : Nat) (b : Blk) : Option (Heap × Nat) :=
  bif Nat.blt nx 1000000000 then some (Tr.put (some b) D h nx, nx + 1) else none

/-! ### equality -/
/-- integers and bools alone, cell by cell; zs: cells of the type's zero -/
def eqCells : List AV → List AV → List AV → Option Bool
  | [], [], [] => some true
  | z :: zs, x :: xs, y :: ys =>
    match z, x, y with
    | .int k₀ _, .int k a, .int k' b => bif decide (k = k') && decide (k₀ = k) then (match eqCells zs xs ys with | some r => some (a == b && r) | none => none) else none
    | .bool _, .bool a, .bool b => (match eqCells zs xs ys with | some r => some (a == b && r) | none => none)
    | _, _, _ => none
  | _, _, _ => none

/-- are cells those of such a type? -/
def typed : List AV → List AV → Bool
  | [], [] => true
  | .int k₀ _ :: zs, .int k _ :: xs => decide (k₀ = k) && typed zs xs
  | .bool _ :: zs, .bool _ :: xs => typed zs xs
  | _, _ => false

def eqA (T : Tab) (h : Heap) (t : TypeId) (x y : AV) : Option Bool :=
  match T.types.get t with
  | none => none
  | some ti =>
    match x, y with
    | .agg xs, .agg ys => bif ti.plainEq then eqCells ti.zero xs ys else none
    | x, y =>
      match ti.d, x, y with
      | .int _, .int k a, .int k' b => bif decide (k = k') then some (a == b) else none
      | .bool, .bool a, .bool b => some (a == b)
      | .ptr _, .nilptr, .nilptr => some true
      | .ptr _, .nilptr, .ptr .. => some false
      | .ptr _, .ptr .., .nilptr => some false
      | .ptr e, .ptr m a, .ptr n b => match T.types.get e, h.get m, h.get n with
        | some te, some (.cells ..), some (.cells ..) => bif Nat.beq te.size 0 then none else some (bif Nat.beq m n then Nat.beq a b else false)
        | _, _, _ => none
      | .slice _, .nilslice, .nilslice => some true
      | .slice _, .nilslice, .slice .. => some false
      | .slice _, .slice .., .nilslice => some false
      | .map .., .nilmap, .nilmap => some true
      | .map .., .nilmap, .map .. => some false
      | .map .., .map .., .nilmap => some false
      | .func, .nilfunc, .nilfunc => some true
      | .func, .nilfunc, .func .. => some false
      | .func, .func .., .nilfunc => some false
      | _, _, _ => none

/-! ### arithmetic -/
def arith (op : BinOp) (k : IntKind) (a b : Int) : Option AV :=
  match op with
  | .add => some (.int k (k.wrap (a + b)))
  | .sub => some (.int k (k.wrap (a - b)))
  | .mul => some (.int k (k.wrap (a * b)))
  | .quo => bif decide (b = 0) then none else some (.int k (k.wrap (a.tdiv b)))
  | .rem => bif decide (b = 0) then none else some (.int k (a.tmod b))
  | .and => some (.int k (k.wrap ((BitVec.ofInt k.bits a &&& BitVec.ofInt k.bits b).toNat)))
  | .or => some (.int k (k.wrap ((BitVec.ofInt k.bits a ||| BitVec.ofInt k.bits b).toNat)))
  | .xor => some (.int k (k.wrap ((BitVec.ofInt k.bits a ^^^ BitVec.ofInt k.bits b).toNat)))
  | .andNot => some (.int k (k.wrap ((BitVec.ofInt k.bits a &&& ~~~ (BitVec.ofInt k.bits b)).toNat)))
  | .eql => some (.bool (a == b))
  | .neq => some (.bool (a != b))
  | .lss => some (.bool (a < b))
  | .leq => some (.bool (a ≤ b))
  | .gtr => some (.bool (a > b))
  | .geq => some (.bool (a ≥ b))
  | _ => none

def shiftA (op : BinOp) (k : IntKind) (a b : Int) : Option AV :=
  bif decide (b < 0) then none else
  match op with
  | .shl => some (.int k (k.wrap (a * 2 ^ (min b.toNat k.bits))))
  | .shr => some (.int k (a.fdiv (2 ^ (min b.toNat k.bits))))
  | _ => none

def binA (T : Tab) (h : Heap) (op : BinOp) (t : TypeId) (x y : AV) : Option AV :=
  match op, x, y with
  | .shl, .int k a, .int _ b => shiftA .shl k a b
  | .shr, .int k a, .int _ b => shiftA .shr k a b
  | op, .int k a, .int k' b => bif decide (k = k') then arith op k a b else none
  | .eql, x, y => match eqA T h t x y with | some r => some (.bool r) | none => none
  | .neq, x, y => match eqA T h t x y with | some r => some (.bool (!r)) | none => none
  | _, _, _ => none

/-! ### slices -/
def natOf : AV → Option Nat
  | .int _ (.ofNat n) => some n
  | _ => none

/-- s[lo:hi:max] of a slice; known: how many elements it has at least, its spare places included -/
def sliceA (size : Nat) (known : Nat) (m off len cap : Nat) (opn : Bool) (lo hi mx : Option Nat) : Option AV :=
  let l := lo.getD 0
  let h := hi.getD len
  bif mx.isSome && hi.isNone then none else
  match opn, mx with
  | false, _ =>
    let c := mx.getD cap
    bif Nat.ble l h && Nat.ble h c && Nat.ble c cap then
      some (.slice m (bif Nat.beq c l then off else off + l * size) (h - l) (c - l) false)
    else none
  | true, some c =>
    bif Nat.ble l h && Nat.ble h c && Nat.ble c known then
      some (.slice m (bif Nat.beq c l then off else off + l * size) (h - l) (c - l) false)
    else none
  | true, none =>
    bif Nat.ble l h && Nat.ble h known then
      (bif Nat.blt l known then some (.slice m (off + l * size) (h - l) (cap + l) true) else some .empty)
    else none

inductive ORes where
  | val (v : AV) (h : Heap) (nx : Nat)
  | enter (f : FuncId) (args : List AV)
  | round (m : Nat) (args : List AV)

/-- the cells of the first n elements of a slice -/
def elemsOf (h : Heap) (size n : Nat) : AV → Option (List AV)
  | .nilslice | .empty => bif Nat.beq n 0 then some [] else none
  | .slice m off len _ _ => bif Nat.ble n len then (match h.get m with
      | some (.cells _ cs) => cut cs off (n * size)
      | _ => none) else none
  | _ => none

def lenA : AV → Option Nat
  | .nilslice | .empty => some 0
  | .slice _ _ len _ _ => some len
  | _ => none

/-- append: what is appended has n elements, the cells new -/
def appendA (h : Heap) (nx : Nat) (elem : TypeId) (size n : Nat) (s : AV) (new : List AV) : Option (AV × Heap × Nat) :=
  match s with
  | .nilslice =>
    bif Nat.beq n 0 then some (.nilslice, h, nx)
    else match newA h nx (.cells elem new) with
      | some (h', nx') => some (.slice nx 0 n 0 true, h', nx')
      | none => none
  | .slice m off len cap opn =>
    match h.get m with
    | some (.cells e cs) =>
      match opn with
      | false =>
        bif Nat.ble (len + n) cap then (match storeCellsA h m (off + len * size) new with
          | some h' => some (.slice m off (len + n) cap false, h', nx)
          | none => none)
        else match cut cs off (len * size) with
          | none => none
          | some old => match newA h nx (.cells elem (old ++ new)) with
            | some (h', nx') => some (.slice nx 0 (len + n) 0 true, h', nx')
            | none => none
      | true =>
        bif Nat.beq n 0 then some (.slice m off len cap true, h, nx)
        else bif Nat.ble (off + (len + n) * size) cs.length && Nat.beq off (cap * size) && Nat.beq e elem then (match storeCellsA h m (off + len * size) new with
          | some h' => some (.slice m off (len + n) cap true, h', nx)
          | none => none)
        else bif Nat.beq e elem && Nat.beq off (cap * size) then (match cut cs off (len * size) with
          | none => none
          | some old => match upd h m none with
            | none => none
            | some h₁ => match newA h₁ nx (.cells elem (old ++ new)) with
              | some (h', nx') => some (.slice nx 0 (len + n) 0 true, h', nx')
              | none => none) else none
    | _ => none
  | _ => none

/-! ### maps -/
/-- where a key stands -/
def posA (T : Tab) (h : Heap) (kt : TypeId) (k : AV) : List (AV × AV × Nat) → Option (Option Nat)
  | [] => some none
  | (k', _, _) :: es => match eqA T h kt k k' with
    | some true => some (some 0)
    | some false => match posA T h kt k es with
      | some (some i) => some (some (i + 1))
      | some none => some none
      | none => none
    | none => none

def setAt {α : Type} : List α → Nat → (α → α) → List α
  | [], _, _ => []
  | x :: xs, n, f => match n with
    | 0 => f x :: xs
    | k + 1 => x :: setAt xs k f

def dropAt {α : Type} : List α → Nat → List α
  | [], _ => []
  | x :: xs, n => match n with
    | 0 => xs
    | k + 1 => x :: dropAt xs k

def zeroA (ti : TI) : AV := bif isAggD ti.d then .agg ti.zero else (match ti.zero with | [z] => z | _ => .agg ti.zero)

/-- may a value be a key of such a map? -/
def keyOk (T : Tab) (kt : TypeId) (k : AV) : Bool :=
  match T.types.get kt with
  | some ti => match ti.d, k with
    | .int k₀, .int k _ => decide (k₀ = k)
    | .bool, .bool _ => true
    | _, .agg xs => ti.plainEq && typed ti.zero xs
    | _, _ => false
  | none => false

/-! ### fill -/
def fillA (place : Nat → Option (Nat × Nat)) (cells : List AV) : List (Nat × AV) → Option (List AV)
  | [] => some cells
  | (i, v) :: rest => match place i with
    | none => none
    | some (off, size) => bif Nat.beq v.cells.length size && Nat.blt 0 size then (match over off cells v.cells with
        | some cs => fillA place cs rest
        | none => none) else none

def partsA (t : Env) : List (Nat × Operand) → Option (List (Nat × AV))
  | [] => some []
  | (i, x) :: r => match val t x with
    | none => none
    | some v => match partsA t r with
      | none => none
      | some vs => some ((i, v) :: vs)

def placesA (T : Tab) : List (Nat × TypeId × Bool) → Nat → Option (Nat × Nat)
  | [], _ => none
  | (off, t, _) :: fs, n => match n with
    | 0 => match T.types.get t with | some ti => some (off, ti.size) | none => none
    | k + 1 => placesA T fs k

def optNat (t : Env) : Option Operand → Option (Option Nat)
  | none => some none
  | some x => match val t x with
    | none => none
    | some v => match natOf v with
      | none => none
      | some n => some (some n)

def maxA : List AV → Option AV
  | [.int k a, .int _ b] => some (.int k (if b > a then b else a))
  | _ => none
def minA : List AV → Option AV
  | [.int k a, .int _ b] => some (.int k (if b < a then b else a))
  | _ => none

def ret (h : Heap) (nx : Nat) : Option AV → Option ORes
  | some v => some (.val v h nx)
  | none => none

def retH (nx : Nat) (v : AV) : Option Heap → Option ORes
  | some h => some (.val v h nx)
  | none => none

def undefA : AV := .tup []

/-- what a look-up tells -/
def foundA (ok : Bool) (zero : AV) : Option AV → AV
  | some v => bif ok then .tup [v, .bool true] else v
  | none => bif ok then .tup [zero, .bool false] else zero

def lenB (T : Tab) (h : Heap) (t : TypeId) (x : AV) : Option Nat :=
  match T.types.get t with
  | none => none
  | some ti => match ti.d with
    | .slice _ => lenA x
    | .arr n _ => some n
    | .ptr e => match T.types.get e with
      | some tj => match tj.d with
        | .arr n _ => some n
        | _ => none
      | none => none
    | .map _ _ => match x with
      | .nilmap => some 0
      | .map m => match h.get m with
        | some (.map es _) => some es.length
        | _ => none
      | _ => none
    | _ => none

def appendB (T : Tab) (h : Heap) (nx : Nat) (st xt : TypeId) (s x : AV) : Option ORes :=
  match T.types.get st, T.types.get xt with
  | some ti, some tx => match ti.d, tx.d with
    | .slice e, .slice _ => match T.types.get e, lenA x, lenA s with
      | some te, some n, some k => match elemsOf h te.size n x with
        | some new => bif Nat.blt 0 te.size && Nat.ble ((k + n) * te.bytes) 140737488355328 && Nat.ble (k + n) 1000000000 && allLeaf new then (match appendA h nx e te.size n s new with
            | some (v, h', nx') => some (.val v h' nx')
            | none => none) else none
        | none => none
      | _, _, _ => none
    | .slice e, .int _ => match T.types.get e, natOf x, lenA s with
      | some te, some n, some k => bif Nat.blt 0 te.size && Nat.blt 0 n && Nat.ble ((k + n) * te.bytes) 140737488355328 && Nat.ble (k + n) 1000000 && Nat.beq te.zero.length te.size && allLeaf (rep te.zero n) then (match appendA h nx e te.size n s (rep te.zero n) with
          | some (v, h', nx') => some (.val v h' nx')
          | none => none) else none
      | _, _, _ => none
    | _, _ => none
  | _, _ => none

def copyB (T : Tab) (h : Heap) (nx : Nat) (dt : TypeId) (d s : AV) : Option ORes :=
  match T.types.get dt with
  | some ti => match ti.d with
    | .slice e => match T.types.get e, lenA d, lenA s with
      | some te, some n, some k => match elemsOf h te.size (Nat.min k n) s with
        | some new => match d with
          | .slice m off _ _ _ => retH nx (.int .i64 (Nat.min k n)) (storeCellsA h m off new)
          | .nilslice => some (.val (.int .i64 0) h nx)
          | _ => none
        | none => none
      | _, _, _ => none
    | _ => none
  | none => none

def deleteB (T : Tab) (h : Heap) (nx : Nat) (mt : TypeId) (m k : AV) : Option ORes :=
  match T.types.get mt, m with
  | some ti, .map m => match ti.d, h.get m with
    | .map kt _, some (.map es c) => bif keyOk T kt k then (match posA T h kt k es with
        | some (some i) => retH nx undefA (upd h m (some (.map (dropAt es i) c)))
        | some none => retH nx undefA (upd h m (some (.map es c)))
        | none => none) else none
    | _, _ => none
  | _, _ => none

def clearB (T : Tab) (h : Heap) (nx : Nat) (ct : TypeId) (x : AV) : Option ORes :=
  match T.types.get ct, x with
  | some ti, .slice m off len _ _ => match ti.d with
    | .slice e => match T.types.get e with
      | some te => bif Nat.beq len 0 then some (.val undefA h nx) else retH nx undefA (storeCellsA h m off (rep te.zero len))
      | none => none
    | _ => none
  | some _, .nilslice => some (.val undefA h nx)
  | some ti, .map m => match ti.d, h.get m with
    | .map _ _, some (.map _ c) => retH nx undefA (upd h m (some (.map [] c)))
    | _, _ => none
  | _, _ => none

def capB (T : Tab) (t : TypeId) (x : AV) : Option Nat :=
  match T.types.get t with
  | some ti => match ti.d, x with
    | .slice _, .slice _ _ _ c false => some c
    | .slice _, .nilslice => some 0
    | _, _ => none
  | none => none

def natR (h : Heap) (nx : Nat) : Option Nat → Option ORes
  | some n => some (.val (.int .i64 n) h nx)
  | none => none

def builtinA (T : Tab) (h : Heap) (nx : Nat) (b : Builtin) (ats : List TypeId) (args : List AV) : Option ORes :=
  match b, ats, args with
  | .len, [t], [x] => natR h nx (lenB T h t x)
  | .cap, [t], [x] => natR h nx (capB T t x)
  | .max, _, l => ret h nx (maxA l)
  | .min, _, l => ret h nx (minA l)
  | .append, [st, xt], [s, x] => appendB T h nx st xt s x
  | .copy, [dt, _], [d, s] => copyB T h nx dt d s
  | .delete, [mt, _], [m, k] => deleteB T h nx mt m k
  | .clear, [ct], [x] => clearB T h nx ct x
  | _, _, _ => none

def extA (h : Heap) (nx : Nat) (e : Xt) (args : List AV) : Option ORes :=
  match e, args with
  | .mark, _ => some (.val undefA h nx)
  | .markAt, [.ptr _ _] => some (.val undefA h nx)
  | .store, [.ptr m off, v] => retH nx undefA (storeCellsA h m off [v])
  | .loadI k, [.ptr m off] => match h.get m with
    | some (.cells _ cs) => match nth cs off with
      | some (.int k' n) => bif decide (k = k') then some (.val (.int k n) h nx) else none
      | _ => none
    | _ => none
  | .addI k, [.ptr m off, .int k₂ y] => match h.get m with
    | some (.cells _ cs) => match nth cs off with
      | some (.int k' n) => bif decide (k = k') && decide (k = k₂) then retH nx (.int k (k.wrap (n + y))) (storeCellsA h m off [.int k (k.wrap (n + y))]) else none
      | _ => none
    | _ => none
  | .casI k, [.ptr m off, .int _ x, .int k₂ y] => match h.get m with
    | some (.cells _ cs) => match nth cs off with
      | some (.int k' n) => bif decide (k = k') && decide (k = k₂) then
          (bif n == x then retH nx (.bool true) (storeCellsA h m off [.int k y]) else some (.val (.bool false) h nx)) else none
      | _ => none
    | _ => none
  | .mapClone, [.iface t (.map m)] => match h.get m with
    | some (.map es c) => match newA h nx (.map es c) with
      | some (h', nx') => some (.val (.iface t (.map nx)) h' nx')
      | none => none
    | _ => none
  | .overlaps size _, [.slice m a la _ _, .slice n b lb _ _] => match h.get m, h.get n with
    | some (.cells ..), some (.cells ..) =>
      bif Nat.beq la 0 || Nat.beq lb 0 || Nat.beq size 0 then some (.val (.bool false) h nx)
      else some (.val (.bool (Nat.beq m n && Nat.blt a (b + lb * size) && Nat.blt b (a + la * size))) h nx)
    | _, _ => none
  | .overlaps _ _, [.nilslice, .nilslice] | .overlaps _ _, [.nilslice, .slice ..] | .overlaps _ _, [.slice .., .nilslice] => some (.val (.bool false) h nx)
  | _, _ => none

def callA (T : Tab) (h : Heap) (nx : Nat) (f : AV) (args : List AV) : Option ORes :=
  match f with
  | .func f first caps => match T.exts.get f with
    | some e => extA h nx e (first ++ args ++ caps)
    | none => match T.funcs.get f with
      | some fn => match fn.body with
        | some _ => some (.enter f (first ++ args ++ caps))
        | none => none
      | none => none
  | .yield m => match h.get m with
    | some (.loop _ _ _ _ _ ps _ _ _) => bif Nat.beq ps.length args.length then some (.round m args) else none
    | _ => none
  | _ => none

/-! ### ranging over a map -/
def inB (n : Nat) : List Nat → Bool
  | [] => false
  | x :: xs => Nat.beq x n || inB n xs

def leftA (seen : List Nat) : List (AV × AV × Nat) → List (AV × AV × Nat)
  | [] => []
  | (k, v, b) :: es => bif inB b seen then leftA seen es else (k, v, b) :: leftA seen es

/-- is there an entry from before? -/
def oldB (n : Nat) : List (AV × AV × Nat) → Bool
  | [] => false
  | (_, _, b) :: es => Nat.blt b n || oldB n es

/-- the next entry of a map, where there is but one way to go on -/
def nextA (h : Heap) (nx : Nat) (r m since : Nat) (seen : List Nat) (stepped : Nat) (es : List (AV × AV × Nat)) (clock : Nat) : Option ORes :=
  bif seen.isEmpty || es.isEmpty || oldB stepped es then (match leftA seen es with
    | [] => some (.val (.tup [.bool false]) h nx)
    | [(k, v, b)] => bif Nat.blt b since then retH nx (.tup [.bool true, k, v]) (upd h r (some (.iter (some m) since (seen ++ [b]) clock))) else none
    | _ => none) else none

def stepA (h : Heap) (nx : Nat) : AV → Option ORes
  | .ptr r 0 => match h.get r with
    | some (.iter none _ _ _) => some (.val (.tup [.bool false]) h nx)
    | some (.iter (some m) since seen stepped) => match h.get m with
      | some (.map es clock) => nextA h nx r m since seen stepped es clock
      | _ => none
    | _ => none
  | _ => none

def rangeA (h : Heap) (nx : Nat) : AV → Option ORes
  | .nilmap => match newA h nx (.iter none 0 [] 0) with
    | some (h', nx') => some (.val (.ptr nx 0) h' nx')
    | none => none
  | .map m => match h.get m with
    | some (.map _ clock) => match newA h nx (.iter (some m) clock [] clock) with
      | some (h', nx') => some (.val (.ptr nx 0) h' nx')
      | none => none
    | _ => none
  | _ => none

def lastN : List Nat → Option Nat
  | [] => none
  | [x] => some x
  | _ :: x :: xs => lastN (x :: xs)

def bornA (n : Nat) : List (AV × AV × Nat) → Option (AV × AV)
  | [] => none
  | (k, v, b) :: es => bif Nat.beq b n then some (k, v) else bornA n es

/-- the entry that the last step came to -/
def entryA (h : Heap) (nx : Nat) : AV → Option ORes
  | .ptr r 0 => match h.get r with
    | some (.iter (some m) _ seen stepped) => match h.get m, lastN seen with
      | some (.map es clock), some n => bif Nat.beq clock stepped then (match bornA n es with
        | some (k, v) => some (.val (.tup [k, v]) h nx)
        | none => none) else none
      | _, _ => none
    | _ => none
  | _ => none

/-! ### one operation -/
def opA (T : Tab) (t : Env) (h : Heap) (nx : Nat) (op : Op) : Option ORes :=
  match op with
  | .move x | .assign x => ret h nx (val t x)
  | .pick c a b => match val t c, val t a, val t b with
    | some (.bool c), some a, some b => some (.val (bif c then a else b) h nx)
    | _, _, _ => none
  | .alloc e => match T.types.get e with
    | some ti => match newA h nx (.cells e ti.zero) with
      | some (h', nx') => some (.val (.ptr nx 0) h' nx')
      | none => none
    | none => none
  | .box e x => match val t x with
    | some v => match newA h nx (.cells e v.cells) with
      | some (h', nx') => some (.val (.ptr nx 0) h' nx')
      | none => none
    | none => none
  | .build ty parts => match T.types.get ty, partsA t parts.toList with
    | some ti, some ps => match ti.d with
      | .struct fs => match fillA (placesA T fs) ti.zero ps with
        | some cs => some (.val (.agg cs) h nx)
        | none => none
      | .arr _ e => match T.types.get e with
        | some te => match fillA (fun i => some (i * te.size, te.size)) ti.zero ps with
          | some cs => some (.val (.agg cs) h nx)
          | none => none
        | none => none
      | _ => none
    | _, _ => none
  | .buildSlice ty len parts => match T.types.get ty, partsA t parts.toList with
    | some ti, some ps => match ti.d with
      | .slice e => match T.types.get e with
        | some te => bif Nat.ble (len * te.size) 16777216 then (match fillA (fun i => some (i * te.size, te.size)) (rep te.zero len) ps with
          | some cs => match newA h nx (.cells e cs) with
            | some (h', nx') => some (.val (.slice nx 0 len len false) h' nx')
            | none => none
          | none => none) else none
        | none => none
      | _ => none
    | _, _ => none
  | .load ty a => match val t a with
    | some a => ret h nx (loadA T h ty a)
    | none => none
  | .store ty a x => match val t a, val t x with
    | some a, some v => retH nx undefA (storeA T h ty a v)
    | _, _ => none
  | .nilCheck x => match val t x with
    | some (.ptr m o) => some (.val (.ptr m o) h nx)
    | some (.gptr m o) => some (.val (.gptr m o) h nx)
    | some (.func f a b) => some (.val (.func f a b) h nx)
    | _ => none
  | .binOp op ty x y _ => match val t x, val t y with
    | some x, some y => ret h nx (binA T h op ty x y)
    | _, _ => none
  | .unOp op _ x => match op, val t x with
    | .not, some (.bool b) => some (.val (.bool (!b)) h nx)
    | .neg, some (.int k n) => some (.val (.int k (k.wrap (0 - n))) h nx)
    | _, _ => none
  | .convert src dst x => match T.types.get src, T.types.get dst, val t x with
    | some _, some ti, some (.int _ n) => match ti.d with
      | .int k => some (.val (.int k (k.wrap n)) h nx)
      | _ => none
    | some tj, some ti, some (.ptr m o) => match tj.d, ti.d, h.get m with
      | .ptr e, .unsafe_, some (.cells _ cs) => match T.types.get e with
        | some te => bif Nat.blt o cs.length && !(Nat.beq te.size 0) then some (.val (.ptr m o) h nx) else none
        | none => none
      | _, _, _ => none
    | _, _, _ => none
  | .makeFunc (.func f) first caps => match vals t first.toList, vals t caps.toList with
    | some a, some b => some (.val (.func f a b) h nx)
    | _, _ => none
  | .makeMap _ none => match newA h nx (.map [] 0) with
    | some (h', nx') => some (.val (.map nx) h' nx')
    | none => none
  | .makeMap ty (some r) => match T.types.get ty, val t r with
    | some ti, some (.int _ _) => match ti.d with
      | .map _ _ => match newA h nx (.map [] 0) with
        | some (h', nx') => some (.val (.map nx) h' nx')
        | none => none
      | _ => none
    | _, _ => none
  | .makeSlice ty l c => match T.types.get ty, val t l, val t c with
    | some ti, some (.int .i64 (.ofNat l)), some (.int .i64 (.ofNat c)) => match ti.d with
      | .slice e => match T.types.get e with
        | some te => bif Nat.ble l c && Nat.ble (te.bytes * c) 140737488355328 && Nat.ble c 1000000 then
            (match newA h nx (.cells e (rep te.zero c)) with
            | some (h', nx') => some (.val (.slice nx 0 l c false) h' nx')
            | none => none) else none
        | none => none
      | _ => none
    | _, _, _ => none
  | .slice ty x lo hi mx => match T.types.get ty, val t x, optNat t lo, optNat t hi, optNat t mx with
    | some ti, some x, some lo, some hi, some mx => match ti.d, x with
      | .slice e, .slice m off len cap opn => match T.types.get e, h.get m with
        | some te, some (.cells e' cs) => bif !opn || (Nat.beq off (cap * te.size) && Nat.beq e' e && Nat.blt 0 te.size) then ret h nx (sliceA te.size ((cs.length - off) / te.size) m off len cap opn lo hi mx) else none
        | _, _ => none
      | .slice e, .nilslice => match T.types.get e with
        | some _ => bif Nat.beq (lo.getD 0) 0 && Nat.beq (hi.getD 0) 0 && Nat.beq (mx.getD 0) 0 && (mx.isNone || hi.isSome) then some (.val .nilslice h nx) else none
        | none => none
      | .arr n e, .ptr m off => match T.types.get e with
        | some te => ret h nx (sliceA te.size n m off n n false lo hi mx)
        | none => none
      | _, _ => none
    | _, _, _, _, _ => none
  | .fieldAddr s x f => match T.types.get s, val t x with
    | some ti, some x => match ti.d with
      | .struct fs => match placesA T fs f with
        | some (off, size) => bif Nat.beq size 0 then none else (match x with
          | .ptr m o => some (.val (.ptr m (o + off)) h nx)
          | .gptr g o => some (.val (.gptr g (o + off)) h nx)
          | _ => none)
        | none => none
      | _ => none
    | _, _ => none
  | .field ty x f => match T.types.get ty, val t x with
    | some ti, some (.agg cs) => match ti.d with
      | .struct fs => match nth fs f with
        | some (off, ft, _) => match T.types.get ft with
          | some tf => bif isAggD tf.d then (match cut cs off tf.size with | some xs => some (.val (.agg xs) h nx) | none => none)
              else ret h nx (nth cs off)
          | none => none
        | none => none
      | _ => none
    | _, _ => none
  | .indexAddr ty x ix => match T.types.get ty, val t x, val t ix with
    | some ti, some x, some (.int _ (.ofNat i)) => match ti.d, x with
      | .arr n e, .ptr m o => match T.types.get e with
        | some te => bif Nat.blt i n then some (.val (.ptr m (o + i * te.size)) h nx) else none
        | none => none
      | .arr n e, .gptr m o => match T.types.get e with
        | some te => bif Nat.blt i n then some (.val (.gptr m (o + i * te.size)) h nx) else none
        | none => none
      | .slice e, .slice m o len _ _ => match T.types.get e with
        | some te => bif Nat.blt i len then some (.val (.ptr m (o + i * te.size)) h nx) else none
        | none => none
      | _, _ => none
    | _, _, _ => none
  | .index ty x ix => match T.types.get ty, val t x, val t ix with
    | some ti, some (.agg cs), some (.int _ (.ofNat i)) => match ti.d with
      | .arr n e => match T.types.get e with
        | some te => bif Nat.blt i n then (bif isAggD te.d then (match cut cs (i * te.size) te.size with | some xs => some (.val (.agg xs) h nx) | none => none)
            else ret h nx (nth cs (i * te.size))) else none
        | none => none
      | _ => none
    | some ti, some (.con (.string s)), some (.int _ (.ofNat i)) => match ti.d with
      | .string => match s.data.toList[i]? with
        | some b => some (.val (.int .u8 (Int.ofNat b.toNat)) h nx)
        | none => none
      | _ => none
    | _, _, _ => none
  | .lookup ty x k ok => match T.types.get ty, val t x, val t k with
    | some ti, some x, some k => match ti.d with
      | .map kt et => match T.types.get et with
        | some te =>
          bif keyOk T kt k then (match x with
          | .nilmap => some (.val (foundA ok (zeroA te) none) h nx)
          | .map m => match h.get m with
            | some (.map es _) => match posA T h kt k es with
              | some none => some (.val (foundA ok (zeroA te) none) h nx)
              | some (some i) => match nth es i with
                | some (_, v, _) => some (.val (foundA ok (zeroA te) (some v)) h nx)
                | none => none
              | none => none
            | _ => none
          | _ => none) else none
        | none => none
      | _ => none
    | _, _, _ => none
  | .mapUpdate ty m k v | .insert ty m k v => match T.types.get ty, val t m, val t k, val t v with
    | some ti, some (.map m), some k, some v => match ti.d, h.get m with
      | .map kt _, some (.map es c) => bif keyOk T kt k then (match posA T h kt k es with
        | some (some i) => retH nx undefA (upd h m (some (.map (setAt es i fun e => (k, v, e.2.2)) c)))
        | some none => retH nx undefA (upd h m (some (.map (es ++ [(k, v, c)]) (c + 1))))
        | none => none) else none
      | _, _ => none
    | _, _, _, _ => none
  | .makeInterface ty x => match T.types.get ty, val t x with
    | some ti, some v => match ti.d with
      | .iface | .other => none
      | _ => some (.val (.iface ty v) h nx)
    | _, _ => none
  | .typeAssert x _ ty ok => match T.types.get ty, val t x with
    | some ti, some (.iface t' v) => match ti.d with
      | .iface | .other => none
      | _ => bif Nat.beq t' ty then some (.val (bif ok then .tup [v, .bool true] else v) h nx) else none
    | _, _ => none
  | .extract x i => match val t x with
    | some (.tup vs) => ret h nx (nth vs i)
    | _ => none
  | .range ty x => match T.types.get ty, val t x with
    | some ti, some x => match ti.d with
      | .map _ _ => rangeA h nx x
      | _ => none
    | _, _ => none
  | .next it false => match val t it with
    | some x => stepA h nx x
    | none => none
  | .entry it => match val t it with
    | some x => entryA h nx x
    | none => none
  | .call c => match vals t c.args.toList with
    | some args => match c.callee with
      | .value f => match val t f with
        | some f => callA T h nx f args
        | none => none
      | .builtin b => builtinA T h nx b c.argTypes.toList args
      | .invoke .. => none
    | none => none
  | _ => none

/-! ### code -/
/-- is the operation to be done? none: it cannot be told -/
def wantedA (t : Env) (ops : Array Oper) (o : Oper) : Option Bool :=
  match o.guard with
  | none => some true
  | some (j, want) => match (ops[j]?).bind (·.dst) with
    | some d => match t.get d with
      | some (.bool b) => some (b == want)
      | some (.tup []) => some false
      | _ => none
    | none => none

def putA (sz : Nat) (t : Env) (dst : Option Nat) (v : AV) : Option Env :=
  match dst with
  | none => some t
  | some d => bif Nat.blt d sz && Nat.blt d 1000000000 then some (Tr.put (some v) D t d) else none

abbrev CallF := FuncId → List AV → Heap → Nat → Option (AV × Heap × Nat)
abbrev RoundF := Nat → List AV → Heap → Nat → Option (AV × Heap × Nat)

def fin (sz : Nat) (t : Env) (dst : Option Nat) : Option (AV × Heap × Nat) → Option (Env × Heap × Nat)
  | none => none
  | some (v, h, nx) => match putA sz t dst v with
    | some t' => some (t', h, nx)
    | none => none

def stepOp (T : Tab) (sz : Nat) (call : CallF) (round : RoundF) (ops : Array Oper) (o : Oper) (t : Env) (h : Heap) (nx : Nat) : Option (Env × Heap × Nat) :=
  match wantedA t ops o with
  | none => none
  | some false => fin sz t o.dst (some (undefA, h, nx))
  | some true => match opA T t h nx o.op with
    | none => none
    | some (.val v h' nx') => fin sz t o.dst (some (v, h', nx'))
    | some (.enter f args) => fin sz t o.dst (call f args h nx)
    | some (.round m args) => fin sz t o.dst (round m args h nx)

def evOps (T : Tab) (sz : Nat) (call : CallF) (round : RoundF) (ops : Array Oper) : List Oper → Env → Heap → Nat → Option (Env × Heap × Nat)
  | [], t, h, nx => some (t, h, nx)
  | o :: rest, t, h, nx => match stepOp T sz call round ops o t h nx with
    | none => none
    | some (t', h', nx') => evOps T sz call round ops rest t' h' nx'

def resA (T : Tab) (t : Env) (h : Heap) : List ResultVar → Option (List AV)
  | [] => some []
  | .tmp x :: rs => match t.get x with
    | none => none
    | some v => match resA T t h rs with
      | none => none
      | some vs => some (v :: vs)
  | .cell a ty :: rs => match t.get a with
    | none => none
    | some p => match loadA T h ty p with
      | none => none
      | some v => match resA T t h rs with
        | none => none
        | some vs => some (v :: vs)

def single : List AV → AV
  | [v] => v
  | vs => .tup vs

def args0 : List AV → Nat → Env → Env
  | [], _, t => t
  | v :: vs, i, t => args0 vs (i + 1) (Tr.put (some v) D t i)

/-! ### regions whose order is drawn -/
def Oper.idle (o : Op) : Bool :=
  match o with
  | .load .. | .lookup .. | .slice .. | .binOp .. | .move .. | .assign .. | .pick .. | .nilCheck .. | .unOp .. | .convert .. | .fieldAddr .. | .field .. | .indexAddr .. | .index ..
  | .makeInterface .. | .typeAssert .. | .extract .. | .makeFunc .. | .build .. => true
  | .call c => match c.callee with
    | .builtin .len | .builtin .cap | .builtin .min | .builtin .max => true
    | _ => false
  | _ => false

def Oper.makes (o : Op) : Bool :=
  match o with
  | .alloc .. | .box .. | .buildSlice .. | .makeMap .. | .makeSlice .. => true
  | _ => false

mutual
def same : AV → AV → Bool
  | .int k n, .int k' n' => decide (k = k') && decide (n = n')
  | .bool a, .bool b => decide (a = b)
  | .ptr m o, .ptr m' o' => Nat.beq m m' && Nat.beq o o'
  | .gptr m o, .gptr m' o' => Nat.beq m m' && Nat.beq o o'
  | .nilptr, .nilptr => true
  | .slice m o l c p, .slice m' o' l' c' p' => Nat.beq m m' && Nat.beq o o' && Nat.beq l l' && Nat.beq c c' && decide (p = p')
  | .empty, .empty | .nilslice, .nilslice | .nilmap, .nilmap | .nilfunc, .nilfunc | .niliface, .niliface => true
  | .map m, .map m' => Nat.beq m m'
  | .func f a c, .func f' a' c' => Nat.beq f f' && sames a a' && sames c c'
  | .iface t v, .iface t' v' => Nat.beq t t' && same v v'
  | .agg a, .agg b => sames a b
  | .tup a, .tup b => sames a b
  | _, _ => false
def sames : List AV → List AV → Bool
  | [], [] => true
  | a :: as, b :: bs => same a b && sames as bs
  | _, _ => false
end

/-- what has been done of a region, in the order of the text -/
structure RS where
  t : Env
  nx : Nat
  k : Nat                          -- so many writers are done
  hs : Tr Heap                     -- memory behind so many writers
  pcs : Tr (Nat × Blk × Nat)       -- by operation: the block it made
  vs : Tr (Env × AV)               -- by operation: the temporaries before, and what it gave

def addPcs (pcs : Tr (Nat × Blk × Nat)) (l : Nat) (h : Heap) : List Nat → Heap
  | [] => h
  | p :: ps => match pcs.get p with
    | some (m, b, cp) => bif Nat.ble l cp then Tr.put (some b) D (addPcs pcs l h ps) m else addPcs pcs l h ps
    | none => addPcs pcs l h ps

def RS.mem (s : RS) (l : Nat) (needs : List Nat) : Option Heap :=
  match s.hs.get l with
  | some h => some (addPcs s.pcs l h needs)
  | none => none

def RS.done (sz : Nat) (s : RS) (i : Nat) (dst : Option Nat) (v : AV) (nx : Nat) : Option RS :=
  match putA sz s.t dst v with
  | some t' => some { s with t := t', nx, vs := Tr.put (some (s.t, v)) D s.vs i }
  | none => none

def RS.wrote (s : RS) (h : Heap) : RS := { s with k := s.k + 1, hs := Tr.put (some h) D s.hs (s.k + 1) }

def RS.write (sz : Nat) (s : RS) (i : Nat) (dst : Option Nat) : Option (AV × Heap × Nat) → Option RS
  | some (v, h', nx') => RS.done sz (s.wrote h') i dst v nx'
  | none => none

def oneA (T : Tab) (sz : Nat) (call : CallF) (round : RoundF) (ops : Array Oper) (i : Nat) (o : Oper) (p : PI) (s : RS) : Option RS :=
  match wantedA s.t ops o with
  | none => none
  | some w => match p.cls with
    | 0 => bif w then (match opA T s.t .nil s.nx o.op with
        | some (.val v h' nx') => match h'.get s.nx with
          | some b => bif Nat.beq nx' (s.nx + 1) && Oper.makes o.op then RS.done sz { s with pcs := Tr.put (some (s.nx, b, p.cp)) D s.pcs i } i o.dst v nx' else none
          | none => bif Oper.idle o.op then RS.done sz s i o.dst v s.nx else none
        | _ => none)
      else RS.done sz s i o.dst undefA s.nx
    | 1 => bif w then (match s.mem s.k p.needs with
        | some h => match opA T s.t h s.nx o.op with
          | some (.val v _ _) => bif Oper.idle o.op then RS.done sz s i o.dst v s.nx else none
          | _ => none
        | none => none)
      else RS.done sz s i o.dst undefA s.nx
    | _ => match s.mem s.k p.needs with
      | some h => bif w then (match opA T s.t h s.nx o.op with
          | none => none
          | some (.val v h' nx') => RS.write sz s i o.dst (some (v, h', nx'))
          | some (.enter f args) => RS.write sz s i o.dst (call f args h s.nx)
          | some (.round m args) => RS.write sz s i o.dst (round m args h s.nx))
        else RS.write sz s i o.dst (some (undefA, h, s.nx))
      | none => none

def allA (T : Tab) (sz : Nat) (call : CallF) (round : RoundF) (ops : Array Oper) : Nat → List Oper → Plan → RS → Option RS
  | _, [], [], s => some s
  | i, o :: os, p :: ps, s => match oneA T sz call round ops i o p s with
    | some s' => allA T sz call round ops (i + 1) os ps s'
    | none => none
  | _, _, _, _ => none

/-- n levels from l on: does the operation give the same there? -/
def levelsA (T : Tab) (s : RS) (op : Op) (needs : List Nat) (t : Env) (v : AV) : Nat → Nat → Bool
  | 0, _ => true
  | n + 1, l => match s.mem l needs with
    | some h => match opA T t h s.nx op with
      | some (.val v' _ _) => same v v' && levelsA T s op needs t v n (l + 1)
      | _ => false
    | none => false

/-- what only looks gives the same wherever it may come up -/
def looksA (T : Tab) (s : RS) (ops : Array Oper) : Nat → List Oper → Plan → Bool
  | _, [], _ => true
  | _, _ :: _, [] => false
  | i, o :: os, p :: ps =>
    (bif Nat.beq p.cls 1 && Nat.blt p.lo p.hi then (match s.vs.get i with
      | some (t, v) => match wantedA t ops o with
        | some true => levelsA T s o.op p.needs t v (p.hi + 1 - p.lo) p.lo
        | some false => true
        | none => false
      | none => false) else true) && looksA T s ops (i + 1) os ps

def drawnA (T : Tab) (call : CallF) (round : RoundF) (f sz id : Nat) (ops : Array Oper) (t : Env) (h : Heap) (nx : Nat) : Option (Env × Heap × Nat) :=
  match T.plans.get f with
  | none => none
  | some ps => match ps.get id with
    | none => none
    | some pl => match allA T sz call round ops 0 ops.toList pl ⟨t, nx, 0, Tr.put (some h) D .nil 0, .nil, .nil⟩ with
      | none => none
      | some s => bif looksA T s ops 0 ops.toList pl then (match s.mem s.k (List.range ops.size) with
        | some h' => some (s.t, h', s.nx)
        | none => none) else none

end Go.Tame
