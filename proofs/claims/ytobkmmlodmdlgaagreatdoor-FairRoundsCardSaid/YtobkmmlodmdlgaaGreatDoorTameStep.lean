/- Code, calls, rounds of loops over functions; the whole evaluator. -/
import Derived.Test.YtobkmmlodmdlgaaGreatDoorTamePlan
set_option linter.all false
namespace Go.Tame
open Go

/-- a deferred call, or the mark of a loop over a function -/
inductive Dfr where
  | mark (m : Nat)
  | call (f : FuncId) (args : List AV)

abbrev CodeF := FuncId → Bool → Nat → Code → Env → Heap → Nat → List Dfr → Option (Out × Env × Heap × Nat × List Dfr)

/-- a loop's record is turned -/
def loopA (h : Heap) (m : Nat) (f : LoopState → Option Out → LoopState × Option Out) : Option Heap :=
  match h.get m with
  | some (.loop fn st pe sz t ps assign body dfr) => match f st pe with
    | (st', pe') => upd h m (some (.loop fn st' pe' sz t ps assign body dfr))
  | _ => none

def notBusy : LoopState → Bool
  | .busy => false
  | _ => true

def isReady : LoopState → Bool
  | .ready => true
  | _ => false

def putsA (sz : Nat) : List Nat → List AV → Env → Option Env
  | [], [], t => some t
  | p :: ps, v :: vs, t => match putA sz t (some p) v with
    | some t' => putsA sz ps vs t'
    | none => none
  | _, _, _ => none

def outNormal : Out → Bool
  | .normal => true
  | _ => false

def pendOf : Out → Option Out
  | .normal => none
  | o => some o

/-- one round of a loop over a function -/
def roundStep (T : Tab) (code : CodeF) (m : Nat) (args : List AV) (h : Heap) (nx : Nat) : Option (AV × Heap × Nat) :=
  match h.get m with
  | some (.loop fn _ _ sz t ps assign body _) => bif planned T fn assign && planned T fn body then (match putsA sz ps args t with
    | some t1 => match code fn true sz assign t1 h nx [] with
      | some (.normal, t2, h2, nx2, []) => match h2.get m with
        | some (.loop _ .ready _ _ _ _ _ _ _) => match loopA h2 m (fun _ pe => (.busy, pe)) with
          | some h3 => match code fn true sz body t2 h3 nx2 [] with
            | some (out, _, h4, nx4, _) => match loopA h4 m (fun _ _ => (bif outNormal out then .ready else .done, pendOf out)) with
              | some h5 => some (.bool (outNormal out), h5, nx4)
              | none => none
            | none => none
          | none => none
        | _ => none
      | _ => none
    | none => none) else none
  | _ => none

/-- a loop over a function: ms: the marks among the deferred calls -/
def rangeFuncA (T : Tab) (call : CallF) (f : FuncId) (sz : Nat) (g : AV) (ps : List Nat) (assign body : Code) (t : Env) (h : Heap) (nx : Nat) (ms : List Dfr) : Option (Out × Env × Heap × Nat × List Dfr) :=
  match g with
  | .func gf fi ca => match T.exts.get gf with
    | some _ => none
    | none => match T.funcs.get gf with
      | some fn => match fn.body with
        | some _ => match newA h nx .dfr with
          | some (h1, nx1) => match newA h1 nx1 (.loop f .ready none sz t ps assign body nx) with
            | some (h2, nx2) => match call gf (fi ++ [.yield nx1] ++ ca) h2 nx2 with
              | some (_, h3, nx3) => match h3.get nx1 with
                | some (.loop _ st pe _ _ _ _ _ _) => bif notBusy st then (match loopA h3 nx1 (fun _ pe => (.exhausted, pe)) with
                  | some h4 => some (pe.getD .normal, t, h4, nx3, .mark nx :: ms)
                  | none => none) else none
                | _ => none
              | none => none
            | none => none
          | none => none
        | none => none
      | none => none
  | _ => none

/-- a region whose last operation defers a call -/
def lastDefer : List Oper → Option Call
  | [] => none
  | [o] => match o.op, o.guard, o.dst with
    | .defer c, none, none => some c
    | _, _, _ => none
  | _ :: o :: os => lastDefer (o :: os)

def initL : List Oper → List Oper
  | [] => []
  | [_] => []
  | x :: o :: os => x :: initL (o :: os)

def deferA (T : Tab) (t : Env) (c : Call) : Option Dfr :=
  match c.callee with
  | .value f => match val t f, vals t c.args.toList with
    | some (.func g fi ca), some args => some (.call g (fi ++ args ++ ca))
    | _, _ => none
  | _ => none

def regionA (T : Tab) (sz : Nat) (call : CallF) (round : RoundF) (inr : Bool) (ops : Array Oper) (t : Env) (h : Heap) (nx : Nat) (ms : List Dfr) : Option (Env × Heap × Nat × List Dfr) :=
  match lastDefer ops.toList with
  | none => match evOps T sz call round ops ops.toList t h nx with
    | some (t', h', nx') => some (t', h', nx', ms)
    | none => none
  | some c => bif inr then none else (match evOps T sz call round ops (initL ops.toList) t h nx with
    | some (t', h', nx') => match deferA T t' c with
      | some d => some (t', h', nx', d :: ms)
      | none => none
    | none => none)

/-- one layer: code and calls, given the layer below; ms: the marks among the deferred calls -/
def codeStep (T : Tab) (call : CallF) (round : RoundF) (rec_ : CodeF) (f : FuncId) (inr : Bool) (sz : Nat) (c : Code) (t : Env) (h : Heap) (nx : Nat) (ms : List Dfr) : Option (Out × Env × Heap × Nat × List Dfr) :=
  match c with
  | .skip | .label _ => some (.normal, t, h, nx, ms)
  | .ret => some (.ret, t, h, nx, ms)
  | .exit id => some (.exit id, t, h, nx, ms)
  | .seq a b => match rec_ f inr sz a t h nx ms with
    | some (.normal, t', h', nx', ms') => rec_ f inr sz b t' h' nx' ms'
    | r => r
  | .cond c a b => match val t c with
    | some (.bool x) => rec_ f inr sz (bif x then a else b) t h nx ms
    | _ => none
  | .block id a => match rec_ f inr sz a t h nx ms with
    | some (.exit i, t', h', nx', ms') => bif Nat.beq i id then some (.normal, t', h', nx', ms') else some (.exit i, t', h', nx', ms')
    | r => r
  | .loop a => match rec_ f inr sz a t h nx ms with
    | some (.normal, t', h', nx', ms') => rec_ f inr sz (.loop a) t' h' nx' ms'
    | r => r
  | .scope a => rec_ f inr sz a t h nx ms
  | .region id ops draw => bif draw then (match drawnA T call round f sz id ops t h nx with
      | some (t', h', nx') => some (.normal, t', h', nx', ms)
      | none => none)
    else (match regionA T sz call round inr ops t h nx ms with
      | some (t', h', nx', ms') => some (.normal, t', h', nx', ms')
      | none => none)
  | .rangeFunc g ps assign body => bif inr then none else (match val t g with
    | some g => rangeFuncA T call f sz g ps.toList assign body t h nx ms
    | none => none)
  | _ => none

/-- a deferred call -/
def callDStep (T : Tab) (rec_ : CodeF) (f : FuncId) (args : List AV) (h : Heap) (nx : Nat) : Option (Heap × Nat) :=
  match T.funcs.get f with
  | none => none
  | some fn => match fn.body with
    | none => none
    | some c => bif Nat.ble args.length fn.ntmps && Nat.blt fn.ntmps 1000000000 then (match rec_ f false fn.ntmps c (args0 args 0 .nil) h nx [] with
      | some (.exit _, _, _, _, _) => none
      | some (_, t', h', nx', []) => match resA T t' h' fn.results.toList with
        | some _ => some (h', nx')
        | none => none
      | _ => none) else none

/-- what is deferred is done; at a mark: nothing was deferred in any round -/
def leavesA (T : Tab) (rec_ : CodeF) (h : Heap) (nx : Nat) : List Dfr → Option (Heap × Nat)
  | [] => some (h, nx)
  | .mark m :: ms => match h.get m with
    | some .dfr => match upd h m none with
      | some h' => leavesA T rec_ h' nx ms
      | none => none
    | _ => none
  | .call f args :: ms => match callDStep T rec_ f args h nx with
    | some (h', nx') => leavesA T rec_ h' nx' ms
    | none => none

def callStep (T : Tab) (rec_ : CodeF) (f : FuncId) (args : List AV) (h : Heap) (nx : Nat) : Option (AV × Heap × Nat) :=
  match T.funcs.get f with
  | none => none
  | some fn => match fn.body with
    | none => none
    | some c => bif Nat.ble args.length fn.ntmps && Nat.blt fn.ntmps 1000000000 then (match rec_ f false fn.ntmps c (args0 args 0 .nil) h nx [] with
      | some (.exit _, _, _, _, _) => none
      | some (_, t', h', nx', ms) => match leavesA T rec_ h' nx' ms with
        | some (h'', nx'') => match resA T t' h'' fn.results.toList with
          | some vs => some (single vs, h'', nx'')
          | none => none
        | none => none
      | none => none) else none

structure Ev where
  call : CallF
  code : CodeF

noncomputable def ev (T : Tab) (n : Nat) : Ev :=
  Nat.rec (motive := fun _ => Ev) ⟨fun _ _ _ _ => none, fun _ _ _ _ _ _ _ _ => none⟩
    (fun _ e => ⟨callStep T e.code, codeStep T e.call (roundStep T e.code) e.code⟩) n

end Go.Tame
