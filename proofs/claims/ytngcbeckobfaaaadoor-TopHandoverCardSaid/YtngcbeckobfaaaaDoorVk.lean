/- The test that a plain code (Vd) belongs to a loaded one. No statement of a claim stands here. -/
import GoSem.Dispatch
import Derived.OrdersIn
import Derived.Test.YtngcbeckobfaaaaDoorVd
set_option linter.unusedSimpArgs false
set_option linter.unusedVariables false
namespace Go.Vi
open Go

def valOk : Value → V → Bool
  | _, .undef => true
  | .bool a, .bool b => a == b
  | .int j a, .int k b => decide (j = k) && decide (a = b)
  | .pointer none, .nilp => true
  | .map none, .nilm => true
  | .nilFunc, .nilf => true
  | .slice none 0 0, .slice _ [] .nil => true
  | .func (.func f) a c, .func g [] [] => Nat.beq f g && Nat.beq a.size 0 && Nat.beq c.size 0
  | _, _ => false
def valsOk : List Value → List V → Bool
  | [], [] => true
  | x :: xs, v :: vs => valOk x v && valsOk xs vs
  | _, _ => false
def elemOk (x : Value) (v : V) : Bool :=
  match x, v with
  | .agg xs, .agg vs => valsOk xs.toList vs
  | .agg _, _ => false
  | .tuple _, _ => false
  | _, .agg _ => false
  | x, v => valOk x v

def opdOk : Operand → Opd → Bool
  | .tmp t, .tmp u => Nat.beq t u
  | .const x, .const v => valOk x v
  | .func f, .const (.func g [] []) => Nat.beq f g
  | .global g, .glob g' => Nat.beq g g'
  | _, _ => false
def opdsOk : List Operand → List Opd → Bool
  | [], [] => true
  | x :: xs, y :: ys => opdOk x y && opdsOk xs ys
  | _, _ => false
def optOk : Option Operand → Option Opd → Bool
  | none, none => true
  | some x, some y => opdOk x y
  | _, _ => false

section
variable (P : Program)

def sizeT (t : TypeId) : Option Nat := (P.info? t).map (·.size)
def shapeT (t : TypeId) : Option (Option Nat) :=
  match P.underlying t, P.info? t with
  | some (.struct _), some i => some (some i.size)
  | some (.array _ _), some i => some (some i.size)
  | some _, some _ => some none
  | _, _ => none
/-- a type's elements: what a slice's element takes -/
def zeroT (t : TypeId) : Option Value := (P.info? t).bind (·.zero)

def flatFields (rec : TypeId → Option (List (Option IntKind))) : Nat → List Field → Option (List (Option IntKind))
  | _, [] => some []
  | off, f :: fs =>
    if f.name == "_" then none else
    if f.offset = off then
      match rec f.type with
      | some k => if sizeT P f.type = some k.length then (flatFields rec (off + k.length) fs).map (k ++ ·) else none
      | none => none
    else none
/-- the kinds of the cells of a type that can be compared cell by cell -/
def flatK : Nat → TypeId → Option (List (Option IntKind))
  | 0, _ => none
  | d + 1, t =>
    match P.underlying t with
    | some .bool => some [none]
    | some (.int k) => some [some k]
    | some (.struct fs) =>
      if P.stoodInHeld t then none else
      flatFields P (flatK d) 0 fs.toList
    | some (.array n e) =>
      match flatK d e with
      | some k => if sizeT P e = some k.length then some ((List.replicate n k).flatten) else none
      | none => none
    | _ => none
/-- a struct or an array -/
def aggT (t : TypeId) : Bool := match P.underlying t with | some (.struct _) | some (.array _ _) => true | _ => false
/-- no array among its parts -/
def noArr : Nat → TypeId → Bool
  | 0, _ => false
  | d + 1, t =>
    match P.underlying t with
    | some .bool | some (.int _) => true
    | some (.struct fs) => fs.toList.all fun f => noArr d f.type
    | _ => false

def partOk (fs : Array Field) (p : Nat × Operand) (q : Nat × Nat × Opd) : Bool :=
  match fs[p.1]? with
  | some f => Nat.beq f.offset q.1 && decide (sizeT P f.type = some q.2.1) && opdOk p.2 q.2.2
  | none => false
def itemOk (k : Nat) (p : Nat × Operand) (q : Nat × Nat × Opd) : Bool := Nat.beq (p.1 * k) q.1 && Nat.beq k q.2.1 && opdOk p.2 q.2.2
def all2 {α β : Type} (f : α → β → Bool) : List α → List β → Bool
  | [], [] => true
  | a :: as, b :: bs => f a b && all2 f as bs
  | _, _ => false
def inRow (k : Nat) : List (Nat × Operand) → List Opd → Bool
  | [], [] => true
  | (i, x) :: ps, y :: ys => Nat.beq i k && opdOk x y && inRow (k + 1) ps ys
  | _, _ => false

def nilOk (t : TypeId) (kd : Nat) (y : Operand) : Bool :=
  match P.underlying t, kd, y with
  | some (.slice _), 0, .const (.slice none 0 0) => true
  | some (.pointer _), 1, .const (.pointer none) => true
  | some (.func ..), 2, .const .nilFunc => true
  | some (.map ..), 3, .const (.map none) => true
  | _, _, _ => false
def chkOp : Op → VOp → Bool
  | _, .bad => true
  | .move x, .move y => opdOk x y
  | .assign x, .move y => opdOk x y
  | .move x, .freeze _ _ y => opdOk x y
  | .assign x, .freeze _ _ y => opdOk x y
  | .pick c a b, .pick c' a' b' => opdOk c c' && opdOk a a' && opdOk b b'
  | .alloc t, .alloc z => match zeroT P t with | some v => valsOk v.cells.toList z | none => false
  | .box _ x, .box y => opdOk x y
  | .build t ps, .build z qs =>
    (match zeroT P t with | some v => valsOk v.cells.toList z | none => false) &&
    (match P.underlying t with
     | some (.struct fs) => fs.toList.all (fun f => (P.info? f.type).isSome) && all2 (partOk P fs) ps.toList qs
     | some (.array _ e) => match sizeT P e with | some k => all2 (itemOk k) ps.toList qs | none => false
     | _ => false)
  | .buildSlice t len ps, .mkslice k qs =>
    match P.underlying t with
    | some (.slice e) => decide (sizeT P e = some k) && Nat.beq len qs.length && Nat.ble (len * k) (2 ^ 24) && Nat.ble 1 k && (zeroT P e).isSome && inRow 0 ps.toList qs
    | _ => false
  | .load t x, .load s y => decide (shapeT P t = some s) && opdOk x y
  | .store t x v, .store n y u => decide (sizeT P t = some n) && Nat.ble 1 n && opdOk x y && opdOk v u
  | .binOp op _ x y _, .bin op' x' y' => decide (op = op') && opdOk x x' && opdOk y y'
  | .binOp op t x y _, .eql ag ks neg x' y' =>
    decide (op = if neg then .neq else .eql) && opdOk x x' && opdOk y y' && decide (flatK P 100 t = some ks) && decide (aggT P t = ag) && !P.eqGuardType P.depth t
  | .binOp op t x y _, .isnil kd neg x' =>
    decide (op = if neg then .neq else .eql) &&
    nilOk P t kd y && opdOk x x'
  | .unOp .not _ x, .not y => opdOk x y
  | .unOp .neg _ x, .neg y => opdOk x y
  | .makeFunc (.func f) a c, .mkfunc g a' c' => Nat.beq f g && opdsOk a.toList a' && opdsOk c.toList c'
  | .makeMap _ none, .mkmap => true
  | .slice t x lo hi mx, .slc k x' lo' hi' mx' =>
    (match P.underlying t with | some (.slice e) => decide (sizeT P e = some k) | _ => false) && opdOk x x' && optOk lo lo' && optOk hi hi' && optOk mx mx' && (mx.isNone || hi.isSome)
  | .slice t x none hi none, .slca n k x' hi' =>
    (match P.underlying t with | some (.array m e) => Nat.beq m n && decide (sizeT P e = some k) | _ => false) && opdOk x x' && optOk hi hi'
  | .fieldAddr t x i, .fieldAddr off s y =>
    (match P.underlying t with
     | some (.struct fs) => match fs[i]? with | some f => Nat.beq f.offset off && decide (shapeT P f.type = some s) && decide (sizeT P f.type ≠ some 0) && (sizeT P f.type).isSome && (s.isSome || decide (sizeT P f.type = some 1)) | none => false
     | _ => false) && opdOk x y
  | .field t x i, .field off s y =>
    (match P.underlying t with
     | some (.struct fs) => match fs[i]? with | some f => Nat.beq f.offset off && decide (shapeT P f.type = some s) | none => false
     | _ => false) && opdOk x y
  | .indexAddr t x i, .idxAddr arr k agg y j =>
    (match P.underlying t, arr with
     | some (.array n e), some m => Nat.beq n m && decide (sizeT P e = some k) && decide (shapeT P e = some (if agg then some k else none)) && (agg || Nat.beq k 1)
     | some (.slice e), none => decide (sizeT P e = some k)
     | _, _ => false) && opdOk x y && opdOk i j
  | .index t x i, .idx n k agg y j =>
    (match P.underlying t with
     | some (.array m e) => Nat.beq n m && decide (sizeT P e = some k) && decide (shapeT P e = some (if agg then some k else none))
     | _ => false) && opdOk x y && opdOk i j
  | .lookup t x k ok, .lookup ag ks z ok' y j =>
    (match P.underlying t with
     | some (.map kt et) => decide (flatK P 100 kt = some ks) && decide (aggT P kt = ag) && noArr P 100 kt && (match zeroT P et with | some v => elemOk v z | none => false)
     | _ => false) && (ok == ok') && opdOk x y && opdOk k j
  | .mapUpdate t m k v, .mapset ag ks m' k' v' | .insert t m k v, .mapset ag ks m' k' v' =>
    (match P.underlying t with | some (.map kt _) => decide (flatK P 100 kt = some ks) && decide (aggT P kt = ag) && noArr P 100 kt | _ => false) && opdOk m m' && opdOk k k' && opdOk v v'
  | .extract x i, .extract y j => Nat.beq i j && opdOk x y
  | .call { callee := .value f, args, .. }, .call _ f' args' => opdOk f f' && opdsOk args.toList args'
  | .call { callee := .builtin .append, args, argTypes }, .append k x y =>
    (match argTypes[0]?, argTypes[1]? with
     | some s, some u =>
       match P.underlying s, P.underlying u with
       | some (.slice e), some (.slice _) =>
         (match P.info? e with | some i => Nat.beq i.size k && Nat.ble i.bytes 4096 && Nat.ble 1 i.size && i.zero.isSome && (match i.zero with | some z => Nat.beq z.cells.size k | none => false) | none => false)
       | _, _ => false
     | _, _ => false) && opdsOk args.toList [x, y]
  | .call { callee := .builtin .len, args, argTypes }, .len x =>
    (match argTypes[0]? with
     | some t => match P.underlying t with | some (.slice _) => true | _ => false
     | none => false) && opdsOk args.toList [x]
  | .call { callee := .builtin .len, args, argTypes }, .mlen x =>
    (match argTypes[0]? with
     | some t => match P.underlying t with | some (.map _ _) => true | _ => false
     | none => false) && opdsOk args.toList [x]
  | .call { callee := .builtin .len, args, argTypes }, .lenc n =>
    (match argTypes[0]? with
     | some t => match P.underlying t with | some (.array m _) => Nat.beq m n | _ => false
     | none => false) && Nat.ble 1 args.size
  | .call { callee := .builtin .min, args, .. }, .min xs => opdsOk args.toList xs
  | .call { callee := .builtin .max, args, .. }, .max xs => opdsOk args.toList xs
  | .makeSlice t l c, .mkarr k z l' =>
    (match P.underlying t with
     | some (.slice e) => (match P.info? e with | some i => Nat.beq i.size k && Nat.ble 1 k && Nat.ble i.bytes 4096 && (match i.zero with | some v => elemOk v z && Nat.beq v.cells.size k | none => false) | none => false)
     | _ => false) && opdOk l l' && opdOk c l'
  | .makeSlice t l c, .mkcap k l' c' =>
    (match P.underlying t with
     | some (.slice e) => (match P.info? e with | some i => Nat.beq i.size k && Nat.ble 1 k && Nat.ble i.bytes 4096 && (match i.zero with | some v => Nat.beq v.cells.size k | none => false) | none => false)
     | _ => false) && opdOk l l' && opdOk c c'
  | _, _ => false
end
end Go.Vi
