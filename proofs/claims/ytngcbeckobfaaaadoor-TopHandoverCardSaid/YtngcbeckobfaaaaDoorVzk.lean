/- The test that a plain code (Vd) belongs to a loaded one: regions, statements, functions. No statement of a claim stands here. -/
import Derived.Test.YtngcbeckobfaaaaDoorVzb
set_option linter.unusedSimpArgs false
set_option linter.unusedVariables false
namespace Go.Vi
open Go

section
variable (P : Program)

def dstOk (nt : Nat) : Option Tmp → Option Nat → Bool
  | none, none => true
  | some t, some u => Nat.beq t u && Nat.blt t nt
  | _, _ => false
def guardOk (ops : Array Oper) : Option (Nat × Bool) → Option (Nat × Bool) → Bool
  | none, none => true
  | some (j, b), some (t, c) => (b == c) && (match ops[j]? with | some o => decide (o.dst = some t) | none => false)
  | _, _ => false
def operOk (nt : Nat) (ops : Array Oper) (o : Oper) (v : VO) : Bool := dstOk nt o.dst v.dst && guardOk ops o.guard v.guard && chkOp P o.op v.op

def edgeMask (acc : List Nat) : List Edge → Nat
  | [] => 0
  | e :: es => if Region.binds .any e then edgeMask acc es ||| (2 ^ e.on ||| acc.getD e.on 0) else edgeMask acc es
/-- which operations of a region surely come ahead of each -/
def maskGo : List Oper → List Nat → List Nat
  | [], acc => acc
  | o :: os, acc => maskGo os (acc ++ [edgeMask acc o.after.toList])
def edgesOk : Nat → List Oper → Bool
  | _, [] => true
  | i, o :: os => o.after.toList.all (fun e => !Region.binds .any e || Nat.blt e.on i) && edgesOk (i + 1) os

def elemB (t : Nat) : List Nat → Bool
  | [] => false
  | x :: xs => Nat.beq x t || elemB t xs
def isE (k : Nat) : Bool := Nat.beq k 2 || Nat.beq k 3 || Nat.beq k 5
def isEA (k : Nat) : Bool := isE k || Nat.beq k 4
abbrev Row := (VO × Nat) × Nat
def readsOf (x y : Row) : Bool := match y.1.1.dst with | some t => elemB t x.1.1.tmps | none => false
def apartB (x y : Row) : Bool := match x.1.1.dst, y.1.1.dst with | some t, some u => !Nat.beq t u | _, _ => true
def imp (a b : Bool) : Bool := match a with | true => b | false => true
def pairOk (rows : List Row) (x y : Row) : Bool :=
  let bxy := Nat.testBit x.1.2 y.2
  let byx := Nat.testBit y.1.2 x.2
  let kx := kindOf x.1.1.op
  let ky := kindOf y.1.1.op
  let less := Nat.blt y.2 x.2
  (Nat.beq x.2 y.2 || (apartB x y && imp (readsOf x y) (bxy || byx))) &&
  imp (Nat.beq kx 1 && readsOf x y) bxy &&
  imp (isE kx && isEA ky && less) bxy &&
  imp (Nat.beq kx 1 && isEA ky && less) (bxy || Nat.beq ky 2 || Nat.beq ky 5) &&
  imp (Nat.beq kx 1 && isEA ky && Nat.blt x.2 y.2) (byx || Nat.beq ky 2 || elemB x.2 y.1.1.re) &&
  imp (Nat.beq ky 4 && (readsOf x y || (Nat.beq kx 1 && less))) (rows.all fun z => imp (isEA (kindOf z.1.1.op) && Nat.blt z.2 y.2) (Nat.testBit x.1.2 z.2))
def rowOk (x : Row) : Bool := imp (Nat.beq (kindOf x.1.1.op) 4) (x.1.1.guard.isNone && x.1.1.dst.isSome)
def rowsOf (ops : Array Oper) (vs : List VO) : List Row := (vs.zip (maskGo ops.toList [])).zipIdx
/-- the test for a region that draws its order (Vfd) -/
def drawOk (nt : Nat) (ops : Array Oper) (vs : List VO) : Bool :=
  all2 (operOk P nt ops) ops.toList vs && edgesOk 0 ops.toList &&
  (let rows := rowsOf ops vs
   rows.all rowOk && rows.all fun x => rows.all fun y => pairOk rows x y)

def chkCode (nt : Nat) : Code → VCode → Bool
  | .skip, .skip => true
  | .label _, .skip => true
  | .ret, .ret => true
  | .exit i, .exit j => Nat.beq i j
  | .seq a b, .seq a' b' => chkCode nt a a' && chkCode nt b b'
  | .cond c a b, .cond c' a' b' => opdOk c c' && chkCode nt a a' && chkCode nt b b'
  | .block i a, .block j a' => Nat.beq i j && chkCode nt a a'
  | .loop a, .loop _ a' => chkCode nt a a'
  | .scope a, c => chkCode nt a c
  | .region _ ops false, .region vs _ => all2 (operOk P nt ops) ops.toList vs
  | .region _ ops true, .region vs _ => drawOk P nt ops vs && decide (P.follows .mixedOrders = true)
  | .rangeFunc f ps g b, .rangeFunc f' ps' g' b' _ => opdOk f f' && decide (ps.toList = ps') && ps'.all (fun t => Nat.blt t nt) && chkCode nt g g' && chkCode nt b b'
  | _, _ => false

def resOk : ResultVar → VRes → Bool
  | .tmp t, .tmp u => Nat.beq t u
  | .cell t ty, .cell u s => Nat.beq t u && decide (shapeT P ty = some s)
  | _, _ => false

def chkFunc (f : Nat) (v : VFunc) : Bool :=
  match P.funcs[f]? with
  | some fn => Nat.beq fn.ntmps v.nt && !(fn.name == "runtime.NumGoroutine") && all2 (resOk P) fn.results.toList v.results && (match fn.body with | some c => chkCode P fn.ntmps c v.body | none => false)
  | none => false
end
end Go.Vi
