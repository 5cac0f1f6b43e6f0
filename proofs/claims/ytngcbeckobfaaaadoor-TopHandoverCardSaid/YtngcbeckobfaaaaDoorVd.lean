/- A plain, deterministic reading of the translated code: values, a heap of abstract places, the code, and its run with a number of rounds. No statement of a claim stands here. -/
import GoSem.Core.Code
import GoSem.Core.View
set_option linter.unusedSimpArgs false
set_option linter.unusedVariables false
namespace Go.Vi

inductive Tip | nil | shut | full | any | own (id : Nat)
  deriving DecidableEq, Repr, Inhabited

inductive V
  | undef
  | bool (b : Bool)
  | int (k : IntKind) (n : Int)
  | ptr (b o : Nat)
  | vptr (v : V)
  | nilp
  | slice (k : Nat) (es : List V) (t : Tip)
  | hs (b len : Nat)
  | rs (b o len : Nat)
  | map (b : Nat)
  | nilm
  | func (fn : Nat) (first caps : List V)
  | yield (l : Nat)
  | nilf
  | agg (cs : List V)
  | tuple (vs : List V)
  deriving Inhabited, Repr

def V.cells : V → List V
  | .agg cs => cs
  | .undef => []
  | v => [v]
def V.isAgg : V → Bool
  | .agg _ => true
  | _ => false
/-- one cell of memory, known -/
def V.cell1 : V → Bool
  | .agg _ | .tuple _ | .undef => false
  | _ => true

mutual
/-- one more than the greatest place that a value names -/
def V.top : V → Nat
  | .ptr b _ => b + 1
  | .vptr v => v.top
  | .slice _ es t => Nat.max (topL es) (match t with | .own i => i + 1 | _ => 0)
  | .hs b _ | .map b | .yield b | .rs b _ _ => b + 1
  | .func _ a c => Nat.max (topL a) (topL c)
  | .agg cs => topL cs
  | .tuple vs => topL vs
  | _ => 0
def topL : List V → Nat
  | [] => 0
  | v :: vs => Nat.max v.top (topL vs)
end

mutual
/-- the right to append in place is dropped -/
def V.clasp : V → V
  | .slice k es (.own _) => .slice k es .any
  | .agg cs => .agg (sealL cs)
  | .tuple vs => .tuple (sealL vs)
  | v => v
def sealL : List V → List V
  | [] => []
  | v :: vs => v.clasp :: sealL vs
end

def eq1 : V → V → Option Bool
  | .int k a, .int k' b => if k = k' then some (a == b) else none
  | .bool a, .bool b => some (a == b)
  | _, _ => none
def eqL : List V → List V → Option Bool
  | [], [] => some true
  | x :: xs, y :: ys =>
    match eq1 x y with
    | some true => eqL xs ys
    | some false => some false
    | none => none
  | _, _ => none
def eqv : V → V → Option Bool
  | .agg a, .agg b => if a.length = b.length then eqL a b else none
  | x, y => eq1 x y
/-- are the cells of these kinds? (an integer's kind; none: a bool) -/
def kindsOk : List (Option IntKind) → List V → Bool
  | [], [] => true
  | some k :: ks, .int j _ :: vs => decide (k = j) && kindsOk ks vs
  | none :: ks, .bool _ :: vs => kindsOk ks vs
  | _, _ => false
/-- is it a value of such a type? (ag: a struct or an array) -/
def keyOk (ag : Bool) (ks : List (Option IntKind)) : V → Bool
  | .agg cs => ag && kindsOk ks cs
  | v => !ag && kindsOk ks [v]

/-- of a slice (0), a pointer (1), a function (2), a map (3) -/
def isNil : Nat → V → Option Bool
  | 0, .slice _ _ .nil => some true
  | 0, .slice _ (_ :: _) _ => some false
  | 0, .slice _ _ (.own _) => some false
  | 0, .slice _ _ .shut => some false
  | 0, .hs .. => some false
  | 1, .nilp => some true
  | 1, .ptr .. => some false
  | 1, .vptr _ => some false
  | 2, .nilf => some true
  | 2, .func .. => some false
  | 3, .nilm => some true
  | 3, .map _ => some false
  | _, _ => none

inductive Opd | tmp (t : Nat) | const (v : V) | glob (g : Nat)
  deriving Inhabited, Repr

inductive VOp
  | move (x : Opd)
  | pick (c a b : Opd)
  | alloc (z : List V)
  | box (x : Opd)
  | build (z : List V) (parts : List (Nat × Nat × Opd))
  | mkslice (k : Nat) (parts : List Opd)
  | load (s : Option Nat) (x : Opd)
  | store (n : Nat) (x v : Opd)
  | bin (op : BinOp) (x y : Opd)
  | eql (ag : Bool) (ks : List (Option IntKind)) (neg : Bool) (x y : Opd)
  | isnil (kd : Nat) (neg : Bool) (x : Opd)
  | not (x : Opd)
  | neg (x : Opd)
  | mkfunc (fn : Nat) (first caps : List Opd)
  | mkmap
  | slc (k : Nat) (x : Opd) (lo hi mx : Option Opd)
  | fieldAddr (off : Nat) (s : Option Nat) (x : Opd)
  | field (off : Nat) (s : Option Nat) (x : Opd)
  | idxAddr (arr : Option Nat) (k : Nat) (agg : Bool) (x i : Opd)
  | idx (arr : Nat) (k : Nat) (agg : Bool) (x i : Opd)
  | lookup (ag : Bool) (ks : List (Option IntKind)) (z : V) (ok : Bool) (m k : Opd)
  | mapset (ag : Bool) (ks : List (Option IntKind)) (m k v : Opd)
  | extract (x : Opd) (i : Nat)
  | call (pure : Bool) (f : Opd) (args : List Opd)
  | append (k : Nat) (x y : Opd)
  | len (x : Opd)
  | mlen (x : Opd)
  | lenc (n : Nat)
  | min (xs : List Opd)
  | max (xs : List Opd)
  | mkarr (k : Nat) (z : V) (len : Opd)
  | freeze (k : Nat) (agg : Bool) (x : Opd)
  | slca (n k : Nat) (x : Opd) (hi : Option Opd)
  | mkcap (k : Nat) (len cap : Opd)
  | bad
  deriving Inhabited, Repr

structure VO where
  dst : Option Nat
  guard : Option (Nat × Bool)
  op : VOp
  /-- readings of the region (by place) that the model may carry out behind this operation: they must come to the same -/
  re : List Nat := []
  deriving Inhabited, Repr

inductive VCode
  | skip
  | ret
  | exit (id : Nat)
  | seq (a b : VCode)
  | cond (c : Opd) (a b : VCode)
  | block (id : Nat) (a : VCode)
  | loop (live : List Nat) (a : VCode)
  | region (ops : List VO) (live : List Nat)
  | rangeFunc (f : Opd) (params : List Nat) (assign body : VCode) (live : List Nat)
  deriving Inhabited, Repr

inductive VRes | tmp (t : Nat) | cell (t : Nat) (s : Option Nat)
  deriving Inhabited, Repr

structure VFunc where
  nt : Nat
  body : VCode
  results : List VRes
  deriving Inhabited, Repr

abbrev Env := List (Nat × V)

inductive Jump | ret | exit (id : Nat)
  deriving Inhabited, Repr, DecidableEq

inductive LState | ready | busy | done | exhausted
  deriving Inhabited, Repr, DecidableEq

structure LoopRec where
  state : LState
  pending : Option Jump
  env : Env
  params : List Nat
  assign : VCode
  body : VCode
  deriving Inhabited

inductive HObj
  | cells (cs : List V)
  | map (es : List (V × V))
  | tip (k used : Nat)
  | loop (r : LoopRec)
  | dead
  deriving Inhabited

structure H where
  next : Nat
  low : Nat
  objs : List (Nat × HObj)
  deriving Inhabited

def alook {α : Type} (k : Nat) : List (Nat × α) → Option α
  | [] => none
  | (i, a) :: r => match Nat.beq i k with | true => some a | false => alook k r

def aset {α : Type} (k : Nat) (v : α) : List (Nat × α) → List (Nat × α)
  | [] => []
  | (i, a) :: r => match Nat.beq i k with | true => (i, v) :: r | false => (i, a) :: aset k v r

def H.get (h : H) (i : Nat) : Option HObj := alook i h.objs
def H.set (h : H) (i : Nat) (o : HObj) : H := { h with low := Nat.min i h.low, objs := aset i o h.objs }
def H.new (h : H) (o : HObj) : H := { h with next := h.next + 1, objs := (h.next, o) :: h.objs }

def Env.get (e : Env) (t : Nat) : Option V := alook t e
def Env.put (e : Env) (d : Option Nat) (v : V) : Env := match d with | some t => (t, v) :: e | none => e
def Env.mask (live : List Nat) (e : Env) : Env := live.filterMap fun t => (alook t e).map fun v => (t, v)

/-- what package-level variables hold -/
abbrev Globs := List (Nat × V)

def Opd.val (G : Globs) (e : Env) : Opd → Option V
  | .tmp t => alook t e
  | .const v => some v
  | .glob g => (alook g G).map .vptr
def vals (G : Globs) (e : Env) : List Opd → Option (List V)
  | [] => some []
  | x :: xs => do let v ← x.val G e; let vs ← vals G e xs; some (v :: vs)

def sub (off : Nat) (s : Option Nat) (cs : List V) : Option V :=
  match s with
  | none => match cs[off]? with | some u => if u.isAgg then none else some u | none => none
  | some n => if off + n ≤ cs.length then some (.agg ((cs.drop off).take n)) else none

def ival : V → Option Int
  | .int _ n => some n
  | _ => none
def bval : V → Option Bool
  | .bool b => some b
  | _ => none

def bnd (G : Globs) (e : Env) (d : Int) : Option Opd → Option Int
  | none => some d
  | some y => (y.val G e).bind ival
/-- a slice of all that it holds -/
def Tip.cut : Tip → Tip
  | .nil => .nil
  | .shut => .shut
  | .own _ => .shut
  | _ => .full

def arith (op : BinOp) : V → V → Option V
  | .int k a, .int k' b =>
    match op with
    | .shl => if b < 0 then none else some (.int k (k.wrap (a * 2 ^ (Nat.min b.toNat k.bits))))
    | .shr => if b < 0 then none else some (.int k (a.fdiv (2 ^ (Nat.min b.toNat k.bits))))
    | _ =>
      if k = k' then
        match op with
        | .add => some (.int k (k.wrap (a + b)))
        | .sub => some (.int k (k.wrap (a - b)))
        | .mul => some (.int k (k.wrap (a * b)))
        | .quo => if b = 0 then none else some (.int k (k.wrap (a.tdiv b)))
        | .rem => if b = 0 then none else some (.int k (a.tmod b))
        | .and => some (.int k (k.wrap (BitVec.ofInt k.bits a &&& BitVec.ofInt k.bits b).toNat))
        | .or => some (.int k (k.wrap (BitVec.ofInt k.bits a ||| BitVec.ofInt k.bits b).toNat))
        | .xor => some (.int k (k.wrap (BitVec.ofInt k.bits a ^^^ BitVec.ofInt k.bits b).toNat))
        | .andNot => some (.int k (k.wrap (BitVec.ofInt k.bits a &&& ~~~BitVec.ofInt k.bits b).toNat))
        | .eql => some (.bool (a == b))
        | .neq => some (.bool (a != b))
        | .lss => some (.bool (a < b))
        | .leq => some (.bool (a ≤ b))
        | .gtr => some (.bool (a > b))
        | .geq => some (.bool (a ≥ b))
        | _ => none
      else none
  | _, _ => none

def setRange (cs : List V) (off : Nat) (vs : List V) : List V := cs.take off ++ vs ++ cs.drop (off + vs.length)

def fillIn (G : Globs) (e : Env) : List V → List (Nat × Nat × Opd) → Option (List V)
  | z, [] => some z
  | z, (off, n, x) :: r =>
    match x.val G e with
    | none | some .undef => none
    | some v => if v.cells.length = n then (if off + n ≤ z.length then fillIn G e (setRange z off v.cells) r else none) else none

def mlook (k : V) : List (V × V) → Option (Option V)
  | [] => some none
  | (k', v) :: r =>
    match eqv k k' with
    | some true => some (some v)
    | some false => mlook k r
    | none => none
def mset (k v : V) : List (V × V) → Option (List (V × V))
  | [] => some [(k, v)]
  | (k', v') :: r =>
    match eqv k k' with
    | some true => some ((k, v) :: r)
    | some false => (mset k v r).map ((k', v') :: ·)
    | none => none

def mapOf (h : H) : V → Option (List (V × V))
  | .nilm => some []
  | .map b => match h.get b with | some (.map es) => some es | _ => none
  | _ => none
def lookRes (z : V) : Bool → Option V → V
  | true, some v => .tuple [v, .bool true]
  | true, none => .tuple [z, .bool false]
  | false, some v => v
  | false, none => z

def minmax (mx : Bool) : Int → IntKind → List V → Option V
  | a, k, [] => some (.int k a)
  | a, k, .int k' b :: r => if k = k' then minmax mx (if mx then (if b > a then b else a) else (if b < a then b else a)) k r else none
  | _, _, _ => none

/-- the greatest length that an append here makes -/
def lim : Nat := 2 ^ 24

/-- one operation that calls nothing -/
def ev (G : Globs) (e : Env) (h : H) : VOp → Option (V × H)
  | .move x => do some (← x.val G e, h)
  | .pick c a b => do
    match (← c.val G e) with
    | .bool true => some (← a.val G e, h)
    | .bool false => some (← b.val G e, h)
    | _ => none
  | .alloc z => some (.ptr h.next 0, h.new (.cells z))
  | .box x => do
    match (← x.val G e) with
    | .undef => none
    | v => some (.ptr h.next 0, h.new (.cells v.cells))
  | .build z ps => do some (.agg (← fillIn G e z ps), h)
  | .mkslice k ps => do
    let vs ← vals G e ps
    if vs.all (fun v => v.cells.length == k && v.cells.all V.cell1) then some (.slice k vs .shut, h) else none
  | .load s x => do
    match (← x.val G e) with
    | .ptr b o =>
      match h.get b with
      | some (.cells cs) => do some (← sub o s cs, h)
      | _ => none
    | .vptr v =>
      match s, v with
      | none, .agg _ => none
      | none, v => some (v, h)
      | some n, .agg cs => if cs.length = n then some (.agg cs, h) else none
      | _, _ => none
    | _ => none
  | .store n x y => do
    let v ← y.val G e
    match (← x.val G e) with
    | .ptr b o =>
      match h.get b with
      | some (.cells cs) => if v.cells.length = n ∧ v.cells.all V.cell1 = true then (if o + n ≤ cs.length then some (.undef, h.set b (.cells (setRange cs o v.cells))) else none) else none
      | _ => none
    | _ => none
  | .bin op x y => do some (← arith op (← x.val G e) (← y.val G e), h)
  | .eql ag ks neg x y => do
    let u ← x.val G e
    let b ← eqv u (← y.val G e)
    if keyOk ag ks u then some (.bool (if neg then !b else b), h) else none
  | .isnil kd neg x => do let b ← isNil kd (← x.val G e); some (.bool (if neg then !b else b), h)
  | .not x => do some (.bool (!(← bval (← x.val G e))), h)
  | .neg x => do
    match (← x.val G e) with
    | .int k n => some (.int k (k.wrap (0 - n)), h)
    | _ => none
  | .mkfunc f a c => do some (.func f (← vals G e a) (← vals G e c), h)
  | .mkmap => some (.map h.next, h.new (.map []))
  | .slc k x lo hi mx =>
    match x.val G e with
    | some (.slice k0 es t) =>
      match decide (k0 = k) || es.isEmpty, bnd G e es.length hi, bnd G e 0 lo with
      | true, some hn, some ln =>
        if 0 ≤ ln ∧ ln ≤ hn ∧ hn ≤ es.length then
          match mx with
          | none => some (.slice k ((es.take hn.toNat).drop ln.toNat) .any, h)
          | some y => if bnd G e 0 (some y) = some hn then some (.slice k ((es.take hn.toNat).drop ln.toNat) t.cut, h) else none
        else none
      | _, _, _ => none
    | _ => none
  | .fieldAddr off s x => do
    match (← x.val G e) with
    | .ptr b o => some (.ptr b (o + off), h)
    | .vptr (.agg cs) => do some (.vptr (← sub off s cs), h)
    | _ => none
  | .field off s x => do
    match (← x.val G e) with
    | .agg cs => do some (← sub off s cs, h)
    | _ => none
  | .idxAddr arr k agg x i => do
    let n ← ival (← i.val G e)
    match arr, (← x.val G e) with
    | none, .slice k' es _ => if k = k' then (if 0 ≤ n then do some (.vptr (← es[n.toNat]?), h) else none) else none
    | none, .rs b o len => if 0 ≤ n ∧ n < len then some (.ptr b (o + n.toNat * k), h) else none
    | none, .hs b len => if 0 ≤ n ∧ n < len then some (.ptr b (n.toNat * k), h) else none
    | some len, .ptr b o => if 0 ≤ n ∧ n < len then some (.ptr b (o + n.toNat * k), h) else none
    | some len, .vptr (.agg cs) => if 0 ≤ n ∧ n < len then do some (.vptr (← sub (n.toNat * k) (if agg then some k else none) cs), h) else none
    | _, _ => none
  | .idx len k agg x i => do
    let n ← ival (← i.val G e)
    match (← x.val G e) with
    | .agg cs => if 0 ≤ n ∧ n < len then do some (← sub (n.toNat * k) (if agg then some k else none) cs, h) else none
    | _ => none
  | .lookup ag ks z ok m k =>
    match k.val G e, m.val G e with
    | some kv, some mv =>
      match keyOk ag ks kv with
      | true =>
        match mapOf h mv with
        | some es => (match mlook kv es with | some r => some (lookRes z ok r, h) | none => none)
        | none => none
      | false => none
    | _, _ => none
  | .mapset ag ks m k v =>
    match k.val G e, v.val G e, m.val G e with
    | some kv, some vv, some (.map b) =>
      match keyOk ag ks kv with
      | true =>
        match h.get b with
        | some (.map es) => (match mset kv vv es with | some es' => some (.undef, h.set b (.map es')) | none => none)
        | _ => none
      | false => none
    | _, _, _ => none
  | .extract x i => do
    match (← x.val G e) with
    | .tuple vs => do some (← vs[i]?, h)
    | _ => none
  | .call .. => none
  | .append k x y => do
    match (← x.val G e), (← y.val G e) with
    | .slice k1 es t, .slice k2 ys _ =>
      if (k1 = k ∨ es = []) ∧ (k2 = k ∨ ys = []) then
        match ys with
        | [] => some (.slice k es t, h)
        | _ =>
          if es.length + ys.length ≤ lim then
            match t with
            | .any => none
            | .own id =>
              match h.get id with
              | some (.tip k0 u) => if u = es.length ∧ k0 = k then some (.slice k (es ++ ys) t, h.set id (.tip k (u + ys.length))) else none
              | _ => none
            | _ => some (.slice k (es ++ ys) (.own h.next), h.new (.tip k (es.length + ys.length)))
          else none
      else none
    | _, _ => none
  | .len x => do
    match (← x.val G e) with
    | .slice _ es _ => some (.int .i64 es.length, h)
    | .rs _ _ n => some (.int .i64 n, h)
    | .hs _ n => some (.int .i64 n, h)
    | _ => none
  | .mlen x => do
    match (← x.val G e) with
    | .nilm => some (.int .i64 0, h)
    | .map b => match h.get b with | some (.map es) => some (.int .i64 es.length, h) | _ => none
    | _ => none
  | .lenc n => some (.int .i64 n, h)
  | .min xs => do
    match (← vals G e xs) with
    | .int k a :: r => do some (← minmax false a k r, h)
    | _ => none
  | .max xs => do
    match (← vals G e xs) with
    | .int k a :: r => do some (← minmax true a k r, h)
    | _ => none
  | .mkarr k z l => do
    let n ← ival (← l.val G e)
    if 0 ≤ n ∧ n ≤ lim then (if z.cells.length = k then some (.hs h.next n.toNat, h.new (.cells (List.replicate n.toNat z.cells).flatten)) else none) else none
  | .freeze k agg x => do
    match (← x.val G e) with
    | .hs b len =>
      match h.get b with
      | some (.cells cs) =>
        if cs.length = len * k ∧ (agg || Nat.beq k 1) = true ∧ cs.all V.cell1 = true then some (.slice k (if agg then (List.range len).map (fun i => .agg ((cs.drop (i * k)).take k)) else cs) .any, h.set b .dead) else none
      | _ => none
    | .slice k' es t => if k = k' then some (.slice k es t, h) else none
    | _ => none
  | .slca n _ x hi => do
    match (← x.val G e) with
    | .ptr b o => do
      let m ← match hi with | none => some (n : Int) | some y => do ival (← y.val G e)
      if 0 ≤ m ∧ m ≤ n then some (.rs b o m.toNat, h) else none
    | _ => none
  | .mkcap k l c => do
    match (← l.val G e), (← c.val G e) with
    | .int _ 0, .int _ n => if 0 ≤ n ∧ n ≤ lim then some (.slice k [] (.own h.next), h.new (.tip k 0)) else none
    | _, _ => none
  | .bad => none

inductive Task
  | code (round : Option Nat) (c : VCode) (e : Env) (h : H)
  | call (f : Nat) (args : List V) (h : H)
  | yield (l : Nat) (args : List V) (h : H)

inductive X | normal | ret | exit (id : Nat)
  deriving Inhabited, Repr, DecidableEq

inductive Res
  | exit (x : X) (e : Env) (h : H)
  | ret (v : V) (h : H) (pure : Bool)

abbrev Prog := Nat → Option VFunc

def callee (rec : Task → Option Res) (f : V) (args : List V) (h : H) : Option (V × H × Bool) :=
  match f with
  | .func g first caps => match rec (.call g (first ++ args ++ caps) h) with | some (.ret v h' p) => some (v, h', p) | _ => none
  | .yield l => match rec (.yield l args h) with | some (.ret v h' p) => some (v, h', p) | _ => none
  | _ => none

def guarded (e : Env) : Option (Nat × Bool) → Option Bool
  | none => some true
  | some (t, want) => match alook t e with | some (.bool b) => some (b == want) | some (.tuple []) => some false | _ => none

def runOp (rec : Task → Option Res) (G : Globs) (e : Env) (h : H) : VOp → Option (V × H)
  | .call pure f args => do
    let r ← callee rec (← f.val G e) (← vals G e args) h
    match pure, r.2.2 with
    | true, false => none
    | _, _ => some (r.1, r.2.1)
  | op => ev G e h op

mutual
def V.same : V → V → Bool
  | .undef, .undef => true
  | .bool a, .bool b => a == b
  | .int j a, .int k b => j == k && a == b
  | .ptr a o, .ptr b p => Nat.beq a b && Nat.beq o p
  | .vptr a, .vptr b => V.same a b
  | .nilp, .nilp => true
  | .slice k a s, .slice l b t => Nat.beq k l && sameL a b && decide (s = t)
  | .hs a o, .hs b p => Nat.beq a b && Nat.beq o p
  | .rs a o l, .rs b p m => Nat.beq a b && Nat.beq o p && Nat.beq l m
  | .map a, .map b => Nat.beq a b
  | .nilm, .nilm => true
  | .func f a c, .func g b d => Nat.beq f g && sameL a b && sameL c d
  | .yield a, .yield b => Nat.beq a b
  | .nilf, .nilf => true
  | .agg a, .agg b => sameL a b
  | .tuple a, .tuple b => sameL a b
  | _, _ => false
def sameL : List V → List V → Bool
  | [], [] => true
  | a :: as, b :: bs => V.same a b && sameL as bs
  | _, _ => false
end

/-- readings carried out anew come to the same -/
def again (G : Globs) (e : Env) (h : H) (all : List VO) : List Nat → Bool
  | [] => true
  | i :: r =>
    (match all[i]? with
     | some o =>
       match guarded e o.guard, o.dst with
       | some false, _ => true
       | some true, some t =>
         (match ev G e h o.op, alook t e with
          | some (v, _), some u => V.same v u
          | _, _ => false)
       | _, _ => false
     | none => false) && again G e h all r

def runOps (rec : Task → Option Res) (G : Globs) (all : List VO) : List VO → Env → H → Option (Env × H)
  | [], e, h => some (e, h)
  | o :: os, e, h =>
    match guarded e o.guard with
    | none => none
    | some false => runOps rec G all os (e.put o.dst (.tuple [])) h
    | some true =>
      match runOp rec G e h o.op with
      | none => none
      | some (v, h') => if again G e h' all o.re then runOps rec G all os (e.put o.dst v) h' else none

def resOf (e : Env) (h : H) : VRes → Option V
  | .tmp t => alook t e
  | .cell t s => match alook t e with | some (.ptr b o) => (match h.get b with | some (.cells cs) => sub o s cs | _ => none) | _ => none
def ressOf (e : Env) (h : H) : List VRes → Option (List V)
  | [] => some []
  | r :: rs => do let v ← resOf e h r; let vs ← ressOf e h rs; some (v :: vs)
def pack : List V → V
  | [v] => v
  | vs => .tuple vs

def keepOld (base : Nat) : List (Nat × HObj) → List (Nat × HObj)
  | [] => []
  | (i, o) :: r => match Nat.blt i base with | true => (i, o) :: keepOld base r | false => keepOld base r

/-- what a call leaves: if it has changed nothing that was there, and hands back no place of its own, the heap is as it was -/
def leave (h : H) (v : V) (h' : H) : V × H × Bool :=
  match Nat.ble v.top h.next with
  | true => match Nat.ble h.next h'.low with
    | true => (v, h, true)
    | false => (v, { h' with low := Nat.min h.low h'.low }, false)
  | false => (v, { h' with low := Nat.min h.low h'.low }, false)

def bindArgs : Nat → List V → Env
  | _, [] => []
  | i, v :: vs => (i, v) :: bindArgs (i + 1) vs

def putL : Env → List Nat → List V → Option Env
  | e, [], [] => some e
  | e, t :: ts, v :: vs => putL ((t, v) :: e) ts vs
  | _, _, _ => none

def X.code : X → Option Jump
  | .normal => none
  | .ret => some .ret
  | .exit id => some (.exit id)

def inLoop (h : H) : Option Nat → Bool
  | none => true
  | some l => match h.get l with | some (.loop _) => true | _ => false

def step (G : Globs) (P : Prog) (rec : Task → Option Res) : Task → Option Res
  | .code r c e h =>
    match c with
    | .skip => some (.exit .normal e h)
    | .ret => some (.exit .ret e h)
    | .exit id => some (.exit (.exit id) e h)
    | .seq a b =>
      match rec (.code r a e h) with
      | some (.exit .normal e h) => rec (.code r b e h)
      | x => x
    | .cond x a b =>
      match x.val G e with
      | some (.bool true) => rec (.code r a e h)
      | some (.bool false) => rec (.code r b e h)
      | _ => none
    | .block id a =>
      match rec (.code r a e h) with
      | some (.exit (.exit id') e h) => if id' = id then some (.exit .normal e h) else some (.exit (.exit id') e h)
      | x => x
    | .loop live a =>
      match rec (.code r a (Env.mask live e) h) with
      | some (.exit .normal e h) => rec (.code r (.loop live a) e h)
      | x => x
    | .region ops live =>
      match runOps rec G ops ops e h with
      | some (e, h) => some (.exit .normal (Env.mask live e) h)
      | none => none
    | .rangeFunc f params assign body live =>
      match f.val G e with
      | some (.func g first caps) =>
        match inLoop h r with
        | false => none
        | true =>
        let l := h.next
        let h1 := h.new (.loop { state := .ready, pending := none, env := Env.mask live e, params, assign, body })
        match rec (.call g (first ++ [.yield l] ++ caps) h1) with
        | some (.ret _ h2 _) =>
          match h2.get l with
          | some (.loop q) =>
            if q.state = .busy then none else
            match q.pending with
            | none => some (.exit .normal e (h2.set l .dead))
            | some .ret => some (.exit .ret e (h2.set l .dead))
            | some (.exit id) => some (.exit (.exit id) e (h2.set l .dead))
          | _ => none
        | _ => none
      | _ => none
  | .call f args h =>
    match P f with
    | none => none
    | some fn =>
      match Nat.ble args.length fn.nt with
      | false => none
      | true =>
      match rec (.code none fn.body (bindArgs 0 args) { h with low := h.next }) with
      | some (.exit .normal e h') | some (.exit .ret e h') =>
        match ressOf e h' fn.results with
        | some vs => let r := leave h (pack vs).clasp h'; some (.ret r.1 r.2.1 r.2.2)
        | none => none
      | _ => none
  | .yield l args h =>
    match h.get l with
    | some (.loop q) =>
      match putL q.env q.params args with
      | none => none
      | some e =>
        match rec (.code (some l) q.assign e h) with
        | some (.exit .normal e h) =>
          match h.get l with
          | some (.loop q') =>
            if q'.state = .ready then
              let h := h.set l (.loop { q' with state := .busy })
              match rec (.code (some l) q.body e h) with
              | some (.exit x _ h) =>
                match h.get l with
                | some (.loop q'') => some (.ret (.bool x.code.isNone) (h.set l (.loop { q'' with state := if x.code.isNone then .ready else .done, pending := x.code })) false)
                | _ => none
              | _ => none
            else none
          | _ => none
        | _ => none
    | _ => none

def eval (G : Globs) (P : Prog) (n : Nat) : Task → Option Res := Nat.rec (fun _ => none) (fun _ ih => step G P ih) n

def Opd.tmps : Opd → List Nat
  | .tmp t => [t]
  | _ => []
def optTmps : Option Opd → List Nat
  | some x => x.tmps
  | none => []
def opdsTmps : List Opd → List Nat
  | [] => []
  | x :: xs => x.tmps ++ opdsTmps xs
def partsTmps : List (Nat × Nat × Opd) → List Nat
  | [] => []
  | (_, _, x) :: xs => x.tmps ++ partsTmps xs
/-- the temporaries that an operation reads -/
def VOp.tmps : VOp → List Nat
  | .move x | .box x | .not x | .neg x | .len x | .mlen x | .load _ x | .isnil _ _ x | .fieldAddr _ _ x | .field _ _ x | .extract x _ | .mkarr _ _ x | .freeze _ _ x => x.tmps
  | .pick c a b => c.tmps ++ (a.tmps ++ b.tmps)
  | .build _ ps => partsTmps ps
  | .mkslice _ ps => opdsTmps ps
  | .store _ x v | .bin _ x v | .eql _ _ _ x v | .idxAddr _ _ _ x v | .idx _ _ _ x v | .lookup _ _ _ _ x v | .append _ x v | .mkcap _ x v => x.tmps ++ v.tmps
  | .mkfunc _ a c => opdsTmps a ++ opdsTmps c
  | .slc _ x lo hi mx => x.tmps ++ (optTmps lo ++ (optTmps hi ++ optTmps mx))
  | .slca _ _ x hi => x.tmps ++ optTmps hi
  | .mapset _ _ m k v => m.tmps ++ (k.tmps ++ v.tmps)
  | .call _ f args => f.tmps ++ opdsTmps args
  | .min xs | .max xs => opdsTmps xs
  | .alloc _ | .mkmap | .lenc _ | .bad => []
def VO.tmps (o : VO) : List Nat := o.op.tmps ++ (match o.guard with | some (t, _) => [t] | none => [])
/-- 0: the heap is not looked at · 1: it is read · 2: a call that leaves it as it is · 3: it may turn · 4: a new variable · 5: append (no reading sees it) -/
def kindOf : VOp → Nat
  | .load .. | .lookup .. | .mlen _ => 1
  | .call true _ _ => 2
  | .call false _ _ | .box _ | .store .. | .mkmap | .mapset .. | .mkarr .. | .freeze .. | .mkcap .. | .bad => 3
  | .append .. => 5
  | .alloc _ => 4
  | _ => 0

end Go.Vi
