/- From a plain run to a law's row: the world in which nothing has been made yet; a law that answers true and leaves everything. No statement of a claim stands here. -/
import Derived.Carry
import Derived.ChangeSame
import Derived.Test.YtngcbeckobfaaaaDoorVzh
import Derived.ChangeArms
import Derived.OpenShut
import Derived.LaidHandle
import Derived.FnData
import Derived.WordedOn
set_option linter.unusedSimpArgs false
set_option linter.unusedVariables false
namespace Go.Vi
open Go Go.ChangeShapes Go.WideShapes Go.RowKit

/-- what stands ahead of the call: all of it is kept -/
def K.start (w : World) : K := { n := 0, mu := fun _ => 0, tb := fun _ => (0, 0, 0), S := fun B off => (w.cell? ⟨B, off, none⟩).isSome = true, U := fun b => b < w.heap.size, base := w.heap.size }
def H.start : H := ⟨0, 0, []⟩

theorem Rel.start (chk : Nat → Code → VCode → Bool) (w : World) : Rel chk (K.start w) H.start w where
  n := rfl
  obj i o h := by cases h
  homes i j o p h := by cases h
  sdis i o h := by cases h
  udis i o h := by cases h
  slt B off h := by
    rcases Nat.lt_or_ge B w.heap.size with hb | hb
    · exact hb
    · have : w.cell? ⟨B, off, none⟩ = none := by simp [World.cell?, Array.getElem?_eq_none hb]
      have h' : (w.cell? ⟨B, off, none⟩).isSome = true := h
      rw [this] at h'; cases h'
  ult b h := h
  us b off h _ := h
  bu b h := h

section
variable {P : Program} {G : Globs} {FN : Prog} {W : World}

theorem calls_of_eval (hFN : ∀ f v, FN f = some v → chkFunc P f v = true) {n f : Nat} {vs : List V} {xs : List Value} {v : V} {h' : H} {p : Bool} (he : eval G FN n (.call f vs H.start) = some (.ret v h' p))
    (hG : GR W (K.start W) G) (hA : VRL W (K.start W) vs xs) : Calls P f ⟨xs⟩ W fun e W' => ∃ x, e = .returned x ∧ (W'.os = W.os ∧ W'.output = W.output) ∧ (∀ b, b < W.heap.size → W'.heap[b]? = W.heap[b]?) ∧ ∃ κ', VR W' κ' v x := by
  obtain ⟨_, hc⟩ := eval_sound (P := P) (G := G) hFN n _ _ he
  refine callsIn_wide.1 ((hc (K.start W) W xs (Rel.start _ W) hG hA).mono ?_)
  rintro e W' ⟨x, κ', rfl, X, _, hv⟩
  exact ⟨x, rfl, X.out.2, fun b hb => (X.U b hb).2, κ', hv⟩

theorem keptBut_of {W W' : World} (ho : W'.os = W.os ∧ W'.output = W.output) (hb : ∀ b, b < W.heap.size → W'.heap[b]? = W.heap[b]?) (may : MemPlace → Prop) : W.keptBut W' may := by
  refine ⟨ho.1, ho.2, fun i hi => ?_⟩
  rw [hb i hi]
  cases hq : W.heap[i]? with
  | none => rfl
  | some o => cases o <;> first | rfl | (exact ⟨rfl, rfl, rfl, fun _ _ => rfl⟩) | (exact .inr ⟨rfl, rfl⟩)

theorem sameAt_of {W W' : World} (hb : ∀ b, b < W.heap.size → W'.heap[b]? = W.heap[b]?) {p : MemPlace} (hp : p.block < W.heap.size) : W.sameAt W' p := by
  cases p with
  | cell b o => exact World.cell?_of_block (w := W) (hb b hp)
  | map b => exact hb b hp

variable {H' : Type} {enc : TypeId × Value → H'}
/-- arguments read behind the call as they did -/
theorem trodAll_stays (hl : laidOutB P = true) {W W' : World} (hb : ∀ b, b < W.heap.size → W'.heap[b]? = W.heap[b]?) {sp' : Nat → Bool} : ∀ {ts : List TypeId} {vs : List Value} {ds : List (DataW H')} {ps : List MemPlace},
    (∀ t ∈ ts, P.readableRec t = true ∧ t < P.types.size) → DataW.TrodAll enc P W 0 (fun _ => true) true ts vs ds ps → (∀ p ∈ ps, p.block < W.heap.size) → (∀ p ∈ ps, sp' p.block = true) → DataW.TrodAll enc P W' 0 sp' true ts vs ds ps
  | [], _, _, _, _, h, _, _ => by
    obtain ⟨rfl, rfl, rfl⟩ := trodAll_nil h
    exact trodAll_mk0
  | t :: ts, _, _, _, ht, h, hlt, hs => by
    obtain ⟨v, vs1, d, ds1, a, b, rfl, rfl, rfl, h1, h2⟩ := trodAll_cons h
    obtain ⟨r1, r2⟩ := ht t (List.mem_cons_self ..)
    exact ⟨a, b, WideElems.Trod_stays hl r1 r2 h1 (fun p hp => sameAt_of hb (hlt p (List.mem_append_left _ hp))) (fun p hp => hs p (List.mem_append_left _ hp)),
      trodAll_stays hl hb (fun t ht' => ht t (List.mem_cons_of_mem _ ht')) h2 (fun p hp => hlt p (List.mem_append_right _ hp)) (fun p hp => hs p (List.mem_append_right _ hp)), rfl⟩

theorem post_same {f : Func} {s : ChangeSpec} {apart fresh handsOn again : Bool} {W W' : World} {args : Array Value} {v : Value} {ds gs : List (DataW H')} {before pa pv : List MemPlace}
    (hW : DataW.Whole enc P f.params.toList s.vars apart W args.toList ds gs before)
    (hres : ∀ (b : Nat) (sp : Nat → Bool) (hd : Bool), DataW.TrodAll enc P W' b sp hd f.resultTypes.toList (v.resultList f.resultTypes.size) (s.fn H' (ds ++ gs)).results [])
    (hargs : ∀ sp : Nat → Bool, (∀ p ∈ before, sp p.block = true) → DataW.TrodAll enc P W' 0 sp true f.params.toList args.toList (s.fn H' (ds ++ gs)).args pa)
    (hvars : ∀ sp : Nat → Bool, (∀ p ∈ before, sp p.block = true) → DataW.TrodVars enc P W' sp s.vars (s.fn H' (ds ++ gs)).vars pv)
    (hps : before = pa ++ pv) (hk : W.keptBut W' (· ∈ before)) (hfz : ∀ a : Addr, a.block < W.heap.size → W'.frozen? a = W.frozen? a)
    (hok : ∀ (j : Nat) (t : TypeId) (r : Value), f.resultTypes[j]? = some t → (v.resultList f.resultTypes.size)[j]? = some r → Value.okWide P W' .any 0 t r) :
    s.post enc P f apart fresh handsOn again W args v W' := by
  have hold : ∀ p ∈ before, (fun b => decide (b < W.heap.size)) p.block = true := fun p hp => by simpa using hW.lt p hp
  have hlt : ∀ p ∈ before, p.block < W.heap.size := fun p hp => hW.lt p hp
  refine ⟨ds, gs, before, [], pa, pv, hW, hres _ _ _, hargs _ hold, hvars _ hold, World.keptBut_mono (fun p hp => ⟨hp, ?_⟩) hk, fun _ => ?_⟩
  · rw [hps, List.mem_append] at hp
    exact Or.inr hp
  · obtain ⟨_, _, _, _, _, hz, hn⟩ := hW
    refine ⟨hok, _, _, ([] ++ pa) ++ pv, ⟨[] ++ pa, pv, trodAll_append (hargs _ (fun _ _ => rfl)) (hres _ _ _), hvars _ (fun _ _ => rfl), rfl, ?_, ?_⟩, ?_⟩
    · intro b off hp
      have hp' : MemPlace.cell b off ∈ before := by rw [hps]; simpa using hp
      rw [hfz _ (hlt _ hp')]
      exact hz b off hp'
    · intro ha
      have := hn ha
      rw [hps] at this
      simpa using this
    · intro p hp _
      rw [hps]
      simpa using hp

/-- **a law that answers true and leaves its arguments** -/
theorem law_of_eval (hFN : ∀ f v, FN f = some v → chkFunc P f v = true) (hl : laidOutB P = true) {n f tb : Nat} {fn : Func} {s : ChangeSpec} {apart fresh handsOn again : Bool} {vs : List V} {h' : H} {p : Bool} {args : Array Value}
    {ds gs : List (DataW H')} {before : List MemPlace} (he : eval G FN n (.call f vs H.start) = some (.ret (.bool true) h' p)) (hG : GR W (K.start W) G) (hA : VRL W (K.start W) vs args.toList)
    (hW : DataW.Whole enc P fn.params.toList s.vars apart W args.toList ds gs before) (hr : fn.resultTypes = #[tb]) (htb : P.underlying tb = some .bool) (hps : ∀ t ∈ fn.params.toList, P.readableRec t = true ∧ t < P.types.size)
    (hv : s.vars = []) (hs : s.fn H' ds = { results := [.lit (.bool true)], args := ds }) :
    Calls P f args W fun e W' => ∃ v, e = .returned v ∧ s.post enc P fn apart fresh handsOn again W args v W' := by
  have hargs : args = ⟨args.toList⟩ := by simp
  rw [hargs]
  refine (calls_of_eval hFN he hG hA).mono ?_
  rintro e W' ⟨x, rfl, ho, hb, κ', hx⟩
  obtain rfl := hx.bool_inv
  refine ⟨_, rfl, ?_⟩
  have hW0 := hW
  have hlt : ∀ p ∈ before, p.block < W.heap.size := fun p hp => hW0.lt p hp
  obtain ⟨pa, pv, hA0, hV0, rfl, hfz, hnd⟩ := hW
  rw [hv] at hV0
  obtain ⟨rfl, rfl⟩ : gs = [] ∧ pv = [] := by
    cases gs with
    | nil => exact ⟨rfl, hV0⟩
    | cons g r => exact absurd hV0 (by intro h; cases h)
  rw [← hargs]
  refine post_same (pa := pa) (pv := []) hW0 ?_ ?_ ?_ (by simp) (keptBut_of ho hb _) ?_ ?_
  · intro b sp hd
    rw [List.append_nil, hs, hr]
    exact trodAll_mk1 (shut_bool htb true)
  · intro sp hsp
    rw [List.append_nil, hs]
    exact trodAll_stays hl hb hps hA0 (fun p hp => hlt p (by simpa using hp)) (fun p hp => hsp p (by simpa using hp))
  · intro sp _
    rw [List.append_nil, hs, hv]; rfl
  · intro a ha
    unfold World.frozen?
    rw [hb a.block ha]
  · intro j t r' h1 h2
    rw [hr] at h1 h2
    cases j with
    | zero =>
      simp only [List.getElem?_toArray, List.getElem?_cons_zero, Option.some.injEq] at h1
      subst h1
      simp only [Value.resultList, List.size_toArray, List.length_cons, List.length_nil] at h2
      simp at h2
      subst h2
      simp [Value.okWide, htb, Cell.okWide, Cell.ok]
    | succ j => simp at h1
end
end Go.Vi
/- What an argument reads as, as a plain value. No statement of a claim stands here. -/
namespace Go.Vi
open Go

/-- the types of arguments that are read as plain values -/
inductive Ty | bool | int (k : IntKind) | slice (k : Nat) (e : Ty) | struct (fs : List Ty) | array (n k : Nat) (e : Ty)

mutual
def Ty.size : Ty → Nat
  | .struct fs => Ty.sizes fs
  | .array n k _ => n * k
  | _ => 1
def Ty.sizes : List Ty → Nat
  | [] => 0
  | t :: ts => t.size + Ty.sizes ts
end
def Ty.agg : Ty → Bool
  | .struct _ | .array .. => true
  | _ => false

mutual
/-- is the type so? -/
def tyOk (P : Program) : Ty → TypeId → Bool
  | .bool, t => match P.underlying t with | some .bool => true | _ => false
  | .int k, t => match P.underlying t with | some (.int j) => decide (j = k) | _ => false
  | .slice k e, t => match P.underlying t with | some (.slice u) => Nat.beq (P.cellsOf u) k && Nat.ble 1 k && Nat.beq e.size k && tyOk P e u | _ => false
  | .struct fs, t => match P.underlying t with | some (.struct gs) => Nat.beq (P.cellsOf t) (Ty.sizes fs) && tysOk P fs 0 gs.toList | _ => false
  | .array n k e, t => match P.underlying t with | some (.array m u) => Nat.beq m n && Nat.beq (P.cellsOf u) k && Nat.beq (P.cellsOf t) (n * k) && Nat.beq e.size k && tyOk P e u | _ => false
def tysOk (P : Program) : List Ty → Nat → List Field → Bool
  | [], _, [] => true
  | f :: fs, off, g :: gs => Nat.beq g.offset off && Nat.beq (P.cellsOf g.type) f.size && tyOk P f g.type && tysOk P fs (off + f.size) gs
  | _, _, _ => false
end

mutual
/-- cells of such a type -/
def Ty.ok : Ty → List V → Prop
  | .bool, vs => ∃ b, vs = [.bool b]
  | .int k, vs => ∃ n, (Lit.int k n).wf = true ∧ vs = [.int k n]
  | .slice k e, vs => ∃ es t, vs = [.slice k es t] ∧ (t = .any ∨ t = .nil ∧ es = []) ∧ es.length ≤ maxLen ∧ ∀ v ∈ es, v.isAgg = e.agg ∧ e.ok v.cells
  | .struct fs, vs => Ty.oks fs vs
  | .array n _ e, vs => ∃ ps : List (List V), ps.length = n ∧ vs = ps.flatten ∧ ∀ p ∈ ps, e.ok p
def Ty.oks : List Ty → List V → Prop
  | [], vs => vs = []
  | t :: ts, vs => ∃ a b, vs = a ++ b ∧ t.ok a ∧ Ty.oks ts b
end

section
variable {P : Program} {W : World} {κ : K} {H' : Type} {enc : TypeId × Value → H'} {held : Bool}

theorem elem_of {e : Ty} {vs : List V} {cs : List Value} (h : VRL W κ vs cs) (hok : e.ok vs) : ∃ v, v.isAgg = e.agg ∧ e.ok v.cells ∧ CR W κ v cs := by
  cases e with
  | bool =>
    obtain ⟨b, rfl⟩ := hok
    cases h with
    | cons _ _ x _ h1 h2 => cases h2; exact ⟨.bool b, rfl, ⟨b, rfl⟩, .one _ _ rfl h1⟩
  | int k =>
    obtain ⟨n, hw, rfl⟩ := hok
    cases h with
    | cons _ _ x _ h1 h2 => cases h2; exact ⟨.int k n, rfl, ⟨n, hw, rfl⟩, .one _ _ rfl h1⟩
  | slice k e =>
    obtain ⟨es, t, rfl, h3, h4, h5⟩ := hok
    cases h with
    | cons _ _ x _ h1 h2 => cases h2; exact ⟨.slice k es t, rfl, ⟨es, t, rfl, h3, h4, h5⟩, .one _ _ rfl h1⟩
  | struct fs => exact ⟨.agg vs, rfl, hok, .agg _ _ h⟩
  | array n k e => exact ⟨.agg vs, rfl, hok, .agg _ _ h⟩

theorem cell_start {B off : Nat} {x : Value} (h : W.cell? ⟨B, off, none⟩ = some x) : (K.start W).S B off := by
  show (W.cell? ⟨B, off, none⟩).isSome = true
  rw [h]; rfl

theorem spot_none {a : Addr} {x : Value} (h : W.cell? a = some x) : a = ⟨a.block, a.off, none⟩ := by
  unfold World.cell? at h
  split at h
  · split at h
    · cases h
    · rename_i hs
      obtain ⟨b, o, sp⟩ := a
      cases sp with
      | none => rfl
      | some _ => simp at hs
  · cases h

def Opened (W : World) (y : Ty) (cs : List Value) : Prop := (∃ vs, VRL W (K.start W) vs cs ∧ y.ok vs) ∧ cs.length = y.size ∧ ∀ c ∈ cs, c.oneCell' = true
def Openeds (W : World) (ys : List Ty) (cs : List Value) : Prop := (∃ vs, VRL W (K.start W) vs cs ∧ Ty.oks ys vs) ∧ cs.length = Ty.sizes ys ∧ ∀ c ∈ cs, c.oneCell' = true

theorem open_slice {e : Ty} {k : Nat} {a : Addr} {len cap : Nat} {cells : Nat → List Value} (h1 : 1 ≤ k) (hsz : e.size = k) (hlc : len ≤ cap) (hmax : len ≤ maxLen)
    (hcell : ∀ i, i < len → W.cells? 0 (a.add (i * k)) k = some (cells i) ∧ Opened W e (cells i)) (hspot : 0 < cap → a = ⟨a.block, a.off, none⟩) :
    Opened W (.slice k e) [.slice (some a) len cap] := by
  have row : ∀ m j, j + m = len → ∃ es xs, RR W (K.start W) k es xs ∧ es.length = m ∧ (∀ v ∈ es, v.isAgg = e.agg ∧ e.ok v.cells) ∧ ∀ i x, xs[i]? = some x → W.cell? ⟨a.block, a.off + j * k + i, none⟩ = some x ∧ x.oneCell' = true := by
    intro m
    induction m with
    | zero => intro j _; exact ⟨[], [], .nil _, rfl, by simp, by simp⟩
    | succ m ih =>
      intro j hj
      obtain ⟨es, xs, hr, hl, hv, hx⟩ := ih (j + 1) (by omega)
      obtain ⟨hc, ⟨vs, hvl, hok⟩, hlen, hone⟩ := hcell j (by omega)
      obtain ⟨v, hva, hvo, hcr⟩ := elem_of hvl hok
      have hspot' := hspot (by omega)
      obtain ⟨hb, hcl, hci⟩ := World.cells?_some hc
      refine ⟨v :: es, cells j ++ xs, .cons _ _ _ _ _ hcr (by rw [hlen, hsz]) hr, by simp [hl], ?_, ?_⟩
      · intro u hu
        rcases List.mem_cons.1 hu with rfl | hu
        · exact ⟨hva, hvo⟩
        · exact hv u hu
      · intro i x hi
        by_cases hik : i < (cells j).length
        · rw [List.getElem?_append_left hik] at hi
          have := hci i (by rw [hlen, hsz] at hik; exact hik)
          rw [hi] at this
          refine ⟨?_, hone x (List.mem_of_getElem? hi)⟩
          rw [hspot', add_none, add_none] at this
          exact this
        · rw [List.getElem?_append_right (by omega)] at hi
          obtain ⟨h3, h4⟩ := hx _ x hi
          refine ⟨?_, h4⟩
          have he : a.off + (j + 1) * k + (i - (cells j).length) = a.off + j * k + i := by
            rw [hlen, hsz] at hik ⊢
            rw [Nat.add_mul]; omega
          rwa [he] at h3
  obtain ⟨es, xs, hr, hl, hv, hx⟩ := row len 0 (by omega)
  refine ⟨⟨[.slice k es .any], .cons _ _ _ _ ?_ .nil, es, .any, rfl, .inl rfl, by omega, hv⟩, rfl, by simp [Value.oneCell']⟩
  have hb : Based W (K.start W) (some a) cap es.length xs := by
    by_cases hc : 0 < cap
    · refine .inl ⟨a.block, a.off, by rw [← hspot hc], fun i x hi => ?_⟩
      obtain ⟨h3, h4⟩ := hx i x hi
      simp only [Nat.zero_mul, Nat.add_zero] at h3
      exact ⟨cell_start h3, h3, h4⟩
    · exact .inr ⟨by omega, by omega⟩
  have := VR.slice (w := W) (κ := K.start W) k es .any (some a) cap xs hr hb (by omega) trivial
  rwa [hl] at this

mutual
theorem open_ty (y : Ty) {t : TypeId} {n : Nat} {cs : List Value} {x : DataW H' × List MemPlace} (hy : tyOk P y t = true) (h : DataW.trod enc P W 0 (fun _ => true) held n t cs = some x) : Opened W y cs := by
  match y with
  | .bool =>
    simp only [tyOk] at hy
    split at hy
    · rename_i hu
      obtain ⟨b, rfl, _⟩ := DataW.trod_bool hu h
      exact ⟨⟨[.bool b], .cons _ _ _ _ (.bool b) .nil, b, rfl⟩, rfl, by simp [Value.oneCell']⟩
    · cases hy
  | .int k =>
    simp only [tyOk] at hy
    split at hy
    · rename_i j hu
      simp only [decide_eq_true_eq] at hy
      subst hy
      obtain ⟨m, rfl, _, hw⟩ := DataW.trod_int hu h
      exact ⟨⟨[.int j m], .cons _ _ _ _ (.int j m) .nil, m, hw, rfl⟩, rfl, by simp [Value.oneCell']⟩
    · cases hy
  | .slice k e =>
    simp only [tyOk] at hy
    split at hy
    · rename_i u hu
      simp only [Bool.and_eq_true, Nat.beq_eq, Nat.ble_eq] at hy
      obtain ⟨⟨⟨hk, h1⟩, hsz⟩, he⟩ := hy
      rcases DataW.trod_slice hu h with ⟨rfl, _⟩ | ⟨a, len, cap, elems, rest, m, rfl, rfl, _, _, hlc, hcm, hel, hin, hsp, _⟩
      · exact ⟨⟨[.slice k [] .nil], .cons _ _ _ _ (.slice k [] .nil none 0 [] (.nil _) (.inr ⟨rfl, rfl⟩) (Nat.le_refl _) rfl) .nil, [], .nil, rfl, .inr ⟨rfl, rfl⟩, by simp, by simp⟩, rfl, by simp [Value.oneCell']⟩
      · rw [hk] at hin hsp
        have hc : ∀ i, ∃ c, i < len → W.cells? 0 (a.add (i * k)) k = some c ∧ Opened W e c := by
          intro i
          by_cases hi : i < len
          · have := hin i hi
            rw [List.getElem?_eq_getElem (by omega)] at this
            simp only [Option.bind_eq_some_iff] at this
            obtain ⟨c, hc1, hc2⟩ := this
            exact ⟨c, fun _ => ⟨hc1, open_ty e he hc2⟩⟩
          · exact ⟨[], fun h => absurd h hi⟩
        refine open_slice (cells := fun i => (hc i).choose) h1 hsz hlc (by omega) (fun i hi => (hc i).choose_spec hi) ?_
        intro hcap
        have one : ∀ c, W.cells? 0 (a.add (0 * k)) k = some c → a = ⟨a.block, a.off, none⟩ := by
          intro c hcc
          have h3 := (World.cells?_some hcc).2.2 0 h1
          have h4 := (World.cells?_some hcc).2.1
          rw [List.getElem?_eq_getElem (by omega)] at h3
          have h5 : (a.add (0 * k)).add 0 = a := by simp [Addr.add]
          rw [h5] at h3
          exact spot_none h3
        by_cases hl : 0 < len
        · obtain ⟨c, hc'⟩ := hc 0
          exact one c (hc' hl).1
        · obtain ⟨hrl, hrj⟩ := hsp rfl
          have := hrj 0 (by omega)
          rw [List.getElem?_eq_getElem (by omega)] at this
          simp only [Option.bind_eq_some_iff] at this
          obtain ⟨c, hc1, _⟩ := this
          have h0 : len = 0 := by omega
          rw [h0] at hc1
          exact one c hc1
    · cases hy
  | .struct fs =>
    simp only [tyOk] at hy
    split at hy
    · rename_i gs hu
      simp only [Bool.and_eq_true, Nat.beq_eq] at hy
      obtain ⟨hsz, hf⟩ := hy
      obtain ⟨xs, m, rfl, _, hl, hxl, hfd⟩ := DataW.trod_struct hu h
      have := open_tys fs (gs := gs.toList) (off := 0) (n := m) (cs := cs) hf (by rw [hl, hsz]; omega) (fun g hg => by
        obtain ⟨i, hi⟩ := List.mem_iff_getElem?.1 hg
        have hi' : gs[i]? = some g := by simpa using hi
        have h3 := hfd i g hi'
        have : i < xs.length := by rw [hxl]; exact (Array.getElem?_eq_some_iff.1 hi').1
        rw [List.getElem?_eq_getElem this] at h3
        exact ⟨_, h3⟩)
      simp only [List.drop_zero] at this
      obtain ⟨⟨vs, h3, h4⟩, h5, h6⟩ := this
      exact ⟨⟨vs, h3, h4⟩, h5, h6⟩
    · cases hy
  | .array m k e =>
    simp only [tyOk] at hy
    split at hy
    · rename_i m' u hu
      simp only [Bool.and_eq_true, Nat.beq_eq] at hy
      obtain ⟨⟨⟨⟨rfl, hk⟩, hsz⟩, hes⟩, he⟩ := hy
      obtain ⟨xs, f, rfl, _, hl, hxl, hel⟩ := DataW.trod_array hu h
      rw [hk] at hel
      have row : ∀ d j, j + d = m' → ∃ ps : List (List V), ps.length = d ∧ VRL W (K.start W) ps.flatten (cs.drop (j * k)) ∧ (∀ p ∈ ps, e.ok p) ∧ ∀ c ∈ cs.drop (j * k), c.oneCell' = true := by
        intro d
        induction d with
        | zero =>
          intro j hj
          have : cs.drop (j * k) = [] := List.drop_eq_nil_of_le (by rw [hl, hsz]; rw [show j = m' by omega]; exact Nat.le_refl _)
          rw [this]
          exact ⟨[], rfl, .nil, by simp, by simp⟩
        | succ d ih =>
          intro j hj
          obtain ⟨ps, h1, h2, h3, h4⟩ := ih (j + 1) (by omega)
          have h5 := hel j (by omega)
          rw [List.getElem?_eq_getElem (by omega)] at h5
          obtain ⟨⟨va, h6, h7⟩, h8, h9⟩ := open_ty e he h5
          have hsplit : cs.drop (j * k) = (cs.drop (j * k)).take k ++ cs.drop ((j + 1) * k) := by
            rw [Nat.add_mul, Nat.one_mul, ← List.drop_drop]; exact (List.take_append_drop _ _).symm
          rw [hsplit]
          refine ⟨va :: ps, by simp [h1], by simpa using h6.append h2, ?_, ?_⟩
          · intro p hp
            rcases List.mem_cons.1 hp with rfl | hp
            · exact h7
            · exact h3 p hp
          · intro c hc
            rcases List.mem_append.1 hc with hc | hc
            · exact h9 c hc
            · exact h4 c hc
      obtain ⟨ps, h1, h2, h3, h4⟩ := row m' 0 (by omega)
      simp only [Nat.zero_mul, List.drop_zero] at h2 h4
      exact ⟨⟨ps.flatten, h2, ps, h1, rfl, h3⟩, by rw [hl, hsz]; rfl, h4⟩
    · cases hy
theorem open_tys (fs : List Ty) {gs : List Field} {off n : Nat} {cs : List Value} (hf : tysOk P fs off gs = true) (hl : cs.length = off + Ty.sizes fs)
    (h : ∀ g ∈ gs, ∃ x, DataW.trod enc P W 0 (fun _ => true) held n g.type ((cs.drop g.offset).take (P.cellsOf g.type)) = some x) : Openeds W fs (cs.drop off) := by
  match fs, gs with
  | [], [] =>
    have : cs.drop off = [] := List.drop_eq_nil_of_le (by rw [hl]; simp [Ty.sizes])
    rw [this]
    exact ⟨⟨[], .nil, rfl⟩, rfl, by simp⟩
  | f :: fs, g :: gs =>
    simp only [tysOk, Bool.and_eq_true, Nat.beq_eq] at hf
    obtain ⟨⟨⟨ho, hs⟩, ht⟩, hr⟩ := hf
    obtain ⟨x, hx⟩ := h g (List.mem_cons_self ..)
    rw [ho, hs] at hx
    simp only [Ty.sizes] at hl
    obtain ⟨⟨va, h1, h2⟩, h3, h4⟩ := open_ty f ht hx
    obtain ⟨⟨vb, h5, h6⟩, h7, h8⟩ := open_tys fs (off := off + f.size) (cs := cs) hr (by rw [hl]; omega) (fun g' hg' => h g' (List.mem_cons_of_mem _ hg'))
    have hsplit : cs.drop off = (cs.drop off).take f.size ++ cs.drop (off + f.size) := by
      rw [← List.drop_drop]; exact (List.take_append_drop _ _).symm
    rw [hsplit]
    refine ⟨⟨va ++ vb, h1.append h5, va, vb, rfl, h2, h6⟩, by rw [List.length_append, h3, h7]; rfl, ?_⟩
    intro c hc
    rcases List.mem_append.1 hc with hc | hc
    · exact h4 c hc
    · exact h8 c hc
  | [], _ :: _ => simp [tysOk] at hf
  | _ :: _, [] => simp [tysOk] at hf
end

/-- an argument -/
theorem open_arg {base : Nat} {y : Ty} {t : TypeId} {v : Value} {d : DataW H'} {p : List MemPlace} (hy : tyOk P y t = true) (hok : Value.okWide P W .any base t v) (h : DataW.Trod enc P W 0 (fun _ => true) held t v d p) :
    ∃ u, VR W (K.start W) u v ∧ u.isAgg = y.agg ∧ y.ok u.cells := by
  obtain ⟨n, hn⟩ := h
  obtain ⟨⟨vs, h1, h2⟩, h3, h4⟩ := open_ty y hy hn
  have single : y.agg = false → (∀ cs, v ≠ .agg cs) → ∃ u, VR W (K.start W) u v ∧ u.isAgg = y.agg ∧ y.ok u.cells := by
    intro hag hna
    have hc : v.cells.toList = [v] := by cases v <;> first | rfl | exact absurd rfl (hna _)
    rw [hc] at h1
    cases h1 with
    | cons u us _ _ hu hr =>
      cases hr
      cases y with
      | bool => obtain ⟨b, hb⟩ := h2; cases hb; exact ⟨_, hu, rfl, b, rfl⟩
      | int k => obtain ⟨m, hw, hb⟩ := h2; cases hb; exact ⟨_, hu, rfl, m, hw, rfl⟩
      | slice k e => obtain ⟨es, tp, hb, q⟩ := h2; cases hb; exact ⟨_, hu, rfl, es, tp, rfl, q⟩
      | struct fs => cases hag
      | array m k e => cases hag
  have whole : y.agg = true → (∃ cs, v = .agg cs) → ∃ u, VR W (K.start W) u v ∧ u.isAgg = y.agg ∧ y.ok u.cells := by
    rintro hag ⟨cs, rfl⟩
    have := VR.agg (w := W) (κ := K.start W) vs cs.toList h1
    exact ⟨.agg vs, this, hag.symm, h2⟩
  cases y with
  | bool =>
    simp only [tyOk] at hy
    split at hy
    · rename_i hu
      refine single rfl fun cs e => ?_
      subst e
      simp [Value.okWide, hu, Cell.okWide, Cell.ok] at hok
    · cases hy
  | int k =>
    simp only [tyOk] at hy
    split at hy
    · rename_i hu
      refine single rfl fun cs e => ?_
      subst e
      simp [Value.okWide, hu, Cell.okWide, Cell.ok] at hok
    · cases hy
  | slice k e =>
    simp only [tyOk] at hy
    split at hy
    · rename_i hu
      refine single rfl fun cs e => ?_
      subst e
      simp [Value.okWide, hu, Cell.okWide, Cell.ok] at hok
    · cases hy
  | struct fs =>
    simp only [tyOk] at hy
    split at hy
    · rename_i hu
      simp only [Value.okWide, hu] at hok
      obtain ⟨cs, rfl, _⟩ := hok
      exact whole rfl ⟨cs, rfl⟩
    · cases hy
  | array m k e =>
    simp only [tyOk] at hy
    split at hy
    · rename_i hu
      simp only [Value.okWide, hu] at hok
      obtain ⟨cs, rfl, _⟩ := hok
      exact whole rfl ⟨cs, rfl⟩
    · cases hy
end
end Go.Vi
/- Arguments, all of them; a table of functions, out of what is laid. No statement of a claim stands here. -/
namespace Go.Vi
open Go Go.ChangeShapes

def Ty.ins : List Ty → List V → Prop
  | [], us => us = []
  | y :: ys, us => ∃ u r, us = u :: r ∧ u.isAgg = y.agg ∧ y.ok u.cells ∧ Ty.ins ys r

section
variable {P : Program} {W : World} {H' : Type} {enc : TypeId × Value → H'}

theorem open_args {base : Nat} : ∀ {ys : List Ty} {ts : List TypeId} {vs : List Value} {ds : List (DataW H')} {ps : List MemPlace}, all2 (tyOk P) ys ts = true → DataW.TrodAll enc P W 0 (fun _ => true) true ts vs ds ps →
    (∀ (j : Nat) t v, ts[j]? = some t → vs[j]? = some v → Value.okWide P W .any base t v) → ∃ us, VRL W (K.start W) us vs ∧ Ty.ins ys us
  | [], [], _, _, _, _, h, _ => by
    obtain ⟨rfl, rfl, rfl⟩ := trodAll_nil h
    exact ⟨[], .nil, rfl⟩
  | y :: ys, t :: ts, _, _, _, hy, h, hok => by
    simp only [all2, Bool.and_eq_true] at hy
    obtain ⟨v, vs1, d, ds1, a, b, rfl, rfl, rfl, h1, h2⟩ := trodAll_cons h
    obtain ⟨u, h3, h4, h5⟩ := open_arg hy.1 (hok 0 t v rfl rfl) h1
    obtain ⟨us, h6, h7⟩ := open_args hy.2 h2 (fun j t v ht hv => hok (j + 1) t v (by simpa using ht) (by simpa using hv))
    exact ⟨u :: us, .cons _ _ _ _ h3 h6, u, us, rfl, h4, h5, h7⟩
  | [], _ :: _, _, _, _, hy, _, _ => by simp [all2] at hy
  | _ :: _, [], _, _, _, hy, _, _ => by simp [all2] at hy

/-- what a table of functions is laid as -/
def tableOf (names : List String) : DataW Unit := .agg (names.map fun s => .iface "func" (.lit (.string s.toUTF8.data.toList)))

theorem funcsOutAll_names : ∀ {names : List String}, (∀ s ∈ names, s.toUTF8.data.toList ≠ []) → DataW.funcsOutAll (names.map fun s => .iface "func" (.lit (.string s.toUTF8.data.toList))) = names.map fun s => .held s.toUTF8.data.toList
  | [], _ => rfl
  | s :: names, h => by
    simp only [List.map_cons, DataW.funcsOutAll]
    rw [funcsOutAll_names (fun x hx => h x (List.mem_cons_of_mem _ hx))]
    congr 1
    have := h s (List.mem_cons_self ..)
    generalize s.toUTF8.data.toList = l at this ⊢
    cases l with
    | nil => exact absurd rfl this
    | cons b r => rfl

theorem trod_func {e : TypeId} {P : Program} {H' : Type} {enc : TypeId × Value → H'} {n : Nat} {c : Value} {x : DataW H' × List MemPlace} {z : H'} (hu : ∃ a b c, P.underlying e = some (.func a b c)) (h : DataW.trod enc P W 0 (fun _ => true) true n e [c] = some x) (hx : x.1 = .held z) : enc (e, c) = z := by
  obtain ⟨a, b, v, hu⟩ := hu
  cases n with
  | zero => simp [DataW.trod] at h
  | succ n =>
    unfold DataW.trod at h
    rw [hu] at h
    split at h <;> simp_all
    · subst h; cases hx
    · subst h; simpa using hx

theorem glob_funcs {n : String} {names : List String} {fs : List FuncId} {g t e : Nat} (hg : P.globalNamed n = some g) (ht : (P.globals[g]?).map (·.type) = some t) (hu : P.underlying t = some (.array names.length e))
    (hfe : ∃ a b c, P.underlying e = some (.func a b c)) (hce : P.cellsOf e = 1) (hct : P.cellsOf t = names.length) (hne : ∀ s ∈ names, s.toUTF8.data.toList ≠ []) (hfs : names.map P.funcNamed = fs.map some)
    (h : funcsAt P W n (tableOf names)) : ∃ xs, CR W (K.start W) (.agg (fs.map fun f => .func f [] [])) xs ∧ Mem W (K.start W) g 0 xs := by
  obtain ⟨g', t', cs, fuel, p, e1, e2, e3, e4⟩ := h
  obtain rfl := Option.some.inj (hg.symm.trans e1)
  obtain rfl := Option.some.inj (ht.symm.trans e2)
  obtain ⟨xs, m, rfl, hx, hl, hxl, hel⟩ := DataW.trod_array hu e4
  have hd : (tableOf names).funcsOut = .agg (names.map fun s => .held s.toUTF8.data.toList) := by
    show DataW.agg (DataW.funcsOutAll _) = _
    rw [funcsOutAll_names hne]
  rw [hd] at hx
  have hxs : xs.map (·.1) = names.map fun s => .held s.toUTF8.data.toList := by
    have := congrArg Prod.fst hx
    simpa using this.symm
  have hlen : fs.length = names.length := by have := congrArg List.length hfs; simpa using this.symm
  have cell : ∀ (i : Nat) (f : FuncId), fs[i]? = some f → cs.toList[i]? = some (Value.func (.func f) #[] #[]) := by
    intro i f hf
    have hi : i < names.length := by rw [← hlen]; exact (List.getElem?_eq_some_iff.1 hf).1
    have h1 := hel i hi
    rw [hce, Nat.mul_one, List.getElem?_eq_getElem (by rw [hxl]; exact hi)] at h1
    have hic : i < cs.toList.length := by rw [hl, hct]; exact hi
    have htk : (cs.toList.drop i).take 1 = [cs.toList[i]] := by
      rw [List.drop_eq_getElem_cons hic]; rfl
    rw [htk] at h1
    have hxi : (xs[i]'(by rw [hxl]; exact hi)).1 = .held names[i].toUTF8.data.toList := by
      have : (xs.map (·.1))[i]? = (names.map fun s => DataW.held s.toUTF8.data.toList)[i]? := by rw [hxs]
      simpa [hxl, hi] using this
    have htok := trod_func hfe h1 hxi
    have hne' := hne names[i] (List.getElem_mem ..)
    obtain ⟨b, r, hbr⟩ : ∃ b r, names[i].toUTF8.data.toList = b :: r := by
      cases hq : names[i].toUTF8.data.toList with
      | nil => exact absurd hq hne'
      | cons b r => exact ⟨b, r, rfl⟩
    obtain ⟨f', fn, hv, hfn, hnm, hby⟩ := funcToken_tells (htok.trans hbr)
    have hname : fn.name = names[i] := bytes_inj (hby.trans hbr.symm)
    rw [hname] at hnm
    have : (names.map P.funcNamed)[i]? = (fs.map some)[i]? := by rw [hfs]
    simp only [List.getElem?_map, hf, Option.map_some] at this
    rw [List.getElem?_eq_getElem hi] at this
    simp only [Option.map_some, Option.some.injEq] at this
    rw [hnm] at this
    cases this
    rw [List.getElem?_eq_getElem hic, hv]
  have hall : cs.toList = fs.map fun f => Value.func (.func f) #[] #[] := by
    apply List.ext_getElem?
    intro i
    rw [List.getElem?_map]
    cases hf : fs[i]? with
    | some f => simpa using cell i f hf
    | none =>
      have := List.getElem?_eq_none_iff.1 hf
      exact List.getElem?_eq_none_iff.2 (by rw [hl, hct]; omega)
  refine ⟨cs.toList, .agg _ _ ?_, ?_⟩
  · rw [hall]
    clear cell hall hfs hlen
    induction fs with
    | nil => exact .nil
    | cons f fs ih => exact .cons _ _ _ _ (.func f [] [] [] [] .nil .nil) ih
  · intro i x hi
    have hc := World.var?_cell hg e3 i
    have hx' : cs[i]? = some x := by simpa using hi
    rw [hx'] at hc
    rw [Nat.zero_add]
    refine ⟨cell_start hc, hc, ?_⟩
    rw [hall] at hi
    simp only [List.getElem?_map, Option.map_eq_some_iff] at hi
    obtain ⟨f, _, rfl⟩ := hi
    rfl

theorem GR.nil {κ : K} : GR W κ [] := fun g v h => by cases h
theorem GR.cons {κ : K} {G : Globs} {g : Nat} {v : V} (h : ∃ xs, CR W κ v xs ∧ Mem W κ g 0 xs) (hG : GR W κ G) : GR W κ ((g, v) :: G) := by
  intro g' v' h'
  rw [alook_cons] at h'
  split at h'
  · rename_i e; subst e; cases h'; exact h
  · exact hG g' v' h'
end
end Go.Vi
