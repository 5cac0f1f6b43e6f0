/- How the plain values and the plain heap of Vd stand to the machine's values and memory; what changes keep it. No statement of a claim stands here. -/
import Derived.RangeFuncLeaves
import Derived.OrdersIn
import Derived.RangeFuncRecord
import Derived.Test.YtngcbeckobfaaaaDoorVd
set_option linter.unusedSimpArgs false
set_option linter.unusedVariables false
namespace Go.Vi
open Go

structure K where
  n : Nat
  mu : Nat → Nat
  tb : Nat → Nat × Nat × Nat
  S : Nat → Nat → Prop
  U : Nat → Prop
  base : Nat

def TipOk (κ : K) (n : Nat) (t : Tip) (base : Option Addr) (cap : Nat) : Prop :=
  match t with
  | .nil => base = none
  | .shut => base ≠ none ∧ cap = n
  | .full => cap = n
  | .any => True
  | .own id => id < κ.n ∧ base ≠ none ∧ n ≤ (κ.tb id).1 ∧ (n = (κ.tb id).1 → base = some ⟨(κ.tb id).2.1, 0, none⟩ ∧ cap = (κ.tb id).2.2)

def Mem (w : World) (κ : K) (B o : Nat) (xs : List Value) : Prop :=
  ∀ i x, xs[i]? = some x → κ.S B (o + i) ∧ w.cell? ⟨B, o + i, none⟩ = some x ∧ x.oneCell' = true

def Based (w : World) (κ : K) (base : Option Addr) (cap n : Nat) (xs : List Value) : Prop :=
  (∃ B o, base = some ⟨B, o, none⟩ ∧ Mem w κ B o xs) ∨ (n = 0 ∧ cap = 0)

mutual
inductive VR (w : World) (κ : K) : V → Value → Prop
  | undef (x : Value) : VR w κ .undef x
  | bool (b : Bool) : VR w κ (.bool b) (.bool b)
  | int (k : IntKind) (n : Int) : VR w κ (.int k n) (.int k n)
  | ptr (b o : Nat) (h : b < κ.n) : VR w κ (.ptr b o) (.pointer (some ⟨κ.mu b, o, none⟩))
  | vptr (v : V) (B o : Nat) (xs : List Value) (hc : CR w κ v xs) (hm : Mem w κ B o xs) : VR w κ (.vptr v) (.pointer (some ⟨B, o, none⟩))
  | nilp : VR w κ .nilp (.pointer none)
  | slice (k : Nat) (es : List V) (t : Tip) (base : Option Addr) (cap : Nat) (xs : List Value) (hr : RR w κ k es xs) (hb : Based w κ base cap es.length xs)
      (hc : es.length ≤ cap) (ht : TipOk κ es.length t base cap) : VR w κ (.slice k es t) (.slice base es.length cap)
  | hs (b len : Nat) (h : b < κ.n) : VR w κ (.hs b len) (.slice (some ⟨κ.mu b, 0, none⟩) len len)
  | rs (b o len cap : Nat) (h : b < κ.n) (hc : len ≤ cap) : VR w κ (.rs b o len) (.slice (some ⟨κ.mu b, o, none⟩) len cap)
  | map (b : Nat) (h : b < κ.n) : VR w κ (.map b) (.map (some (κ.mu b)))
  | nilm : VR w κ .nilm (.map none)
  | func (f : Nat) (a c : List V) (xa xc : List Value) (ha : VRL w κ a xa) (hc : VRL w κ c xc) : VR w κ (.func f a c) (.func (.func f) ⟨xa⟩ ⟨xc⟩)
  | yield (l : Nat) (h : l < κ.n) : VR w κ (.yield l) (.func (.yield (κ.mu l)) #[] #[])
  | nilf : VR w κ .nilf .nilFunc
  | agg (cs : List V) (xs : List Value) (h : VRL w κ cs xs) : VR w κ (.agg cs) (.agg ⟨xs⟩)
  | tuple (vs : List V) (xs : List Value) (h : VRL w κ vs xs) : VR w κ (.tuple vs) (.tuple ⟨xs⟩)
/-- the cells of a value -/
inductive CR (w : World) (κ : K) : V → List Value → Prop
  | agg (cs : List V) (xs : List Value) (h : VRL w κ cs xs) : CR w κ (.agg cs) xs
  | one (v : V) (x : Value) (hn : v.isAgg = false) (h : VR w κ v x) : CR w κ v [x]
/-- the cells of a row of elements, each of k cells -/
inductive RR (w : World) (κ : K) : Nat → List V → List Value → Prop
  | nil (k : Nat) : RR w κ k [] []
  | cons (k : Nat) (e : V) (es : List V) (xs ys : List Value) (h : CR w κ e xs) (hk : xs.length = k) (hr : RR w κ k es ys) : RR w κ k (e :: es) (xs ++ ys)
inductive VRL (w : World) (κ : K) : List V → List Value → Prop
  | nil : VRL w κ [] []
  | cons (v : V) (vs : List V) (x : Value) (xs : List Value) (h : VR w κ v x) (hr : VRL w κ vs xs) : VRL w κ (v :: vs) (x :: xs)
end

/-- the world has gone on: what may not change has not -/
structure Ext (κ : K) (w : World) (κ' : K) (w' : World) : Prop where
  n : κ.n ≤ κ'.n
  mu : ∀ i, i < κ.n → κ'.mu i = κ.mu i
  tb : ∀ i, i < κ.n → κ'.tb i = κ.tb i ∨ (κ.tb i).1 < (κ'.tb i).1
  S : ∀ B o, κ.S B o → κ'.S B o ∧ w'.cell? ⟨B, o, none⟩ = w.cell? ⟨B, o, none⟩
  U : ∀ b, κ.U b → κ'.U b ∧ w'.heap[b]? = w.heap[b]?
  size : w.heap.size ≤ w'.heap.size
  out : κ'.base = κ.base ∧ w'.os = w.os ∧ w'.output = w.output

theorem Ext.refl (κ : K) (w : World) : Ext κ w κ w := ⟨Nat.le_refl _, fun _ _ => rfl, fun _ _ => .inl rfl, fun _ _ h => ⟨h, rfl⟩, fun _ h => ⟨h, rfl⟩, Nat.le_refl _, rfl, rfl, rfl⟩
theorem Ext.trans {κ κ' κ'' : K} {w w' w'' : World} (h : Ext κ w κ' w') (g : Ext κ' w' κ'' w'') : Ext κ w κ'' w'' where
  n := Nat.le_trans h.n g.n
  mu i hi := (g.mu i (Nat.lt_of_lt_of_le hi h.n)).trans (h.mu i hi)
  tb i hi := by
    rcases h.tb i hi with e | l <;> rcases g.tb i (Nat.lt_of_lt_of_le hi h.n) with e' | l'
    · exact .inl (e'.trans e)
    · exact .inr (by rw [← e]; exact l')
    · exact .inr (by rw [e']; exact l)
    · exact .inr (Nat.lt_trans l l')
  S B o hs := let ⟨a, b⟩ := h.S B o hs; let ⟨c, d⟩ := g.S B o a; ⟨c, d.trans b⟩
  U b hu := let ⟨a, b'⟩ := h.U b hu; let ⟨c, d⟩ := g.U b a; ⟨c, d.trans b'⟩
  size := Nat.le_trans h.size g.size
  out := ⟨g.out.1.trans h.out.1, g.out.2.1.trans h.out.2.1, g.out.2.2.trans h.out.2.2⟩

theorem Mem.mono {κ κ' : K} {w w' : World} (h : Ext κ w κ' w') {B o : Nat} {xs : List Value} (m : Mem w κ B o xs) : Mem w' κ' B o xs :=
  fun i x hx => let ⟨a, b, e⟩ := m i x hx; let ⟨c, d⟩ := h.S _ _ a; ⟨c, d.trans b, e⟩
theorem Based.mono {κ κ' : K} {w w' : World} (h : Ext κ w κ' w') {base : Option Addr} {cap n : Nat} {xs : List Value} (m : Based w κ base cap n xs) : Based w' κ' base cap n xs :=
  m.imp (fun ⟨B, o, e, m⟩ => ⟨B, o, e, m.mono h⟩) id
theorem TipOk.mono {κ κ' : K} {w w' : World} (h : Ext κ w κ' w') {n : Nat} {t : Tip} {base : Option Addr} {cap : Nat} (m : TipOk κ n t base cap) : TipOk κ' n t base cap := by
  cases t <;> try exact m
  rename_i id
  obtain ⟨a, b, c, d⟩ := m
  refine ⟨Nat.lt_of_lt_of_le a h.n, b, ?_, ?_⟩
  · rcases h.tb id a with e | l
    · rw [e]; exact c
    · omega
  · rcases h.tb id a with e | l
    · rw [e]; exact d
    · intro hh; omega

mutual
theorem VR.mono {κ κ' : K} {w w' : World} (h : Ext κ w κ' w') : ∀ {v : V} {x : Value}, VR w κ v x → VR w' κ' v x
  | _, _, .undef x => .undef x
  | _, _, .bool b => .bool b
  | _, _, .int k n => .int k n
  | _, _, .ptr b o hb => by rw [← h.mu b hb]; exact .ptr b o (Nat.lt_of_lt_of_le hb h.n)
  | _, _, .vptr v B o xs hc hm => .vptr v B o xs (hc.mono h) (hm.mono h)
  | _, _, .nilp => .nilp
  | _, _, .slice k es t base cap xs hr hb hc ht => .slice k es t base cap xs (hr.mono h) (hb.mono h) hc (ht.mono h)
  | _, _, .hs b len hb => by rw [← h.mu b hb]; exact .hs b len (Nat.lt_of_lt_of_le hb h.n)
  | _, _, .rs b o len cap hb hc => by rw [← h.mu b hb]; exact .rs b o len cap (Nat.lt_of_lt_of_le hb h.n) hc
  | _, _, .map b hb => by rw [← h.mu b hb]; exact .map b (Nat.lt_of_lt_of_le hb h.n)
  | _, _, .nilm => .nilm
  | _, _, .func f a c xa xc ha hc => .func f a c xa xc (ha.mono h) (hc.mono h)
  | _, _, .yield l hb => by rw [← h.mu l hb]; exact .yield l (Nat.lt_of_lt_of_le hb h.n)
  | _, _, .nilf => .nilf
  | _, _, .agg cs xs hl => .agg cs xs (hl.mono h)
  | _, _, .tuple vs xs hl => .tuple vs xs (hl.mono h)
theorem CR.mono {κ κ' : K} {w w' : World} (h : Ext κ w κ' w') : ∀ {v : V} {xs : List Value}, CR w κ v xs → CR w' κ' v xs
  | _, _, .agg cs xs hl => .agg cs xs (hl.mono h)
  | _, _, .one v x hn hv => .one v x hn (hv.mono h)
theorem RR.mono {κ κ' : K} {w w' : World} (h : Ext κ w κ' w') : ∀ {k : Nat} {es : List V} {xs : List Value}, RR w κ k es xs → RR w' κ' k es xs
  | _, _, _, .nil k => .nil k
  | _, _, _, .cons k e es xs ys hc hk hr => .cons k e es xs ys (hc.mono h) hk (hr.mono h)
theorem VRL.mono {κ κ' : K} {w w' : World} (h : Ext κ w κ' w') : ∀ {vs : List V} {xs : List Value}, VRL w κ vs xs → VRL w' κ' vs xs
  | _, _, .nil => .nil
  | _, _, .cons v vs x xs hv hr => .cons v vs x xs (hv.mono h) (hr.mono h)
end

inductive MR (w : World) (κ : K) : List (V × V) → List MapEntry → Prop
  | nil : MR w κ [] []
  | cons (k v : V) (es : List (V × V)) (m : MapEntry) (ms : List MapEntry) (hk : VR w κ k m.key) (hv : VR w κ v m.val) (hr : MR w κ es ms) : MR w κ ((k, v) :: es) (m :: ms)
theorem MR.mono {κ κ' : K} {w w' : World} (h : Ext κ w κ' w') : ∀ {es : List (V × V)} {ms : List MapEntry}, MR w κ es ms → MR w' κ' es ms
  | _, _, .nil => .nil
  | _, _, .cons k v es m ms hk hv hr => .cons k v es m ms (hk.mono h) (hv.mono h) (hr.mono h)

/-- the temporaries -/
def ER (w : World) (κ : K) (e : Env) (tmps : Array Value) : Prop := ∀ t v, alook t e = some v → VR w κ v (tmps.getD t undef)
theorem ER.mono {κ κ' : K} {w w' : World} (h : Ext κ w κ' w') {e : Env} {tmps : Array Value} (m : ER w κ e tmps) : ER w' κ' e tmps :=
  fun t v ht => (m t v ht).mono h

def Jump.toCode : Jump → Code
  | .ret => .ret
  | .exit id => .exit id
def LState.toGo : LState → LoopState
  | .ready => .ready
  | .busy => .busy
  | .done => .done
  | .exhausted => .exhausted

def HObj.alive : HObj → Bool
  | .dead => false
  | _ => true

section
variable (chk : Nat → Code → VCode → Bool)

def ObjR (w : World) (κ : K) (i : Nat) : HObj → Prop
  | .cells cs => ∃ xs e, w.heap[κ.mu i]? = some (.cells ⟨xs⟩ e (0, 0)) ∧ VRL w κ cs xs
  | .map es => ∃ ms c, w.heap[κ.mu i]? = some (.map ⟨ms⟩ c) ∧ MR w κ es ms
  | .tip k u => (κ.tb i).1 = u ∧ u ≤ (κ.tb i).2.2 ∧ ∃ xs e, w.heap[(κ.tb i).2.1]? = some (.cells ⟨xs⟩ e (0, 0)) ∧ xs.length = (κ.tb i).2.2 * k
  | .loop r => ∃ L : Loop, w.heap[κ.mu i]? = some (.loop L) ∧ L.state = r.state.toGo ∧ L.pending = r.pending.map Jump.toCode ∧ ER w κ r.env L.tmps ∧
      L.params.toList = r.params ∧ (∀ t ∈ r.params, t < L.tmps.size) ∧ chk L.tmps.size L.assign r.assign = true ∧ chk L.tmps.size L.body r.body = true
  | .dead => True

def home (κ : K) (i : Nat) : HObj → Nat
  | .tip _ _ => (κ.tb i).2.1
  | _ => κ.mu i
def Foot (κ : K) (i : Nat) (o : HObj) (B off : Nat) : Prop :=
  match o with
  | .dead => False
  | .tip k u => B = (κ.tb i).2.1 ∧ u * k ≤ off
  | _ => B = κ.mu i

structure Rel (κ : K) (h : H) (w : World) : Prop where
  n : κ.n = h.next
  obj : ∀ i o, h.get i = some o → i < h.next ∧ ObjR chk w κ i o
  homes : ∀ i j o p, h.get i = some o → h.get j = some p → i ≠ j → o.alive = true → p.alive = true → home κ i o ≠ home κ j p
  sdis : ∀ i o, h.get i = some o → ∀ B off, κ.S B off → ¬ Foot κ i o B off
  udis : ∀ i o, h.get i = some o → o.alive = true → ¬ κ.U (home κ i o)
  slt : ∀ B off, κ.S B off → B < w.heap.size
  ult : ∀ b, κ.U b → b < w.heap.size
  us : ∀ b off, κ.U b → κ.S b off → b < κ.base
  bu : ∀ b, b < κ.base → κ.U b
end
end Go.Vi
