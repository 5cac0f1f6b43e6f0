/- Fewer places, sealed values: what a call leaves behind. No statement of a claim stands here. -/
import Derived.Test.YtngcbeckobfaaaaDoorVzk
set_option linter.unusedSimpArgs false
set_option linter.unusedVariables false
namespace Go.Vi
open Go

section
variable {w w' : World} {κ κ' : K}

def K.cut (κ : K) (m : Nat) (U : Nat → Prop) : K := { κ with n := m, U := U }

mutual
theorem VR.top_le : ∀ {v : V} {x : Value}, VR w κ v x → v.top ≤ κ.n
  | _, _, .undef x => by simp [V.top]
  | _, _, .bool b => by simp [V.top]
  | _, _, .int k n => by simp [V.top]
  | _, _, .ptr b o hb => by simp only [V.top]; exact hb
  | _, _, .vptr v B o xs hc hm => by simp only [V.top]; exact hc.top_le
  | _, _, .nilp => by simp [V.top]
  | _, _, .slice k es t base cap xs hr hb hc ht => by
    simp only [V.top]
    refine Nat.max_le.2 ⟨hr.top_le, ?_⟩
    cases t <;> simp only [Nat.zero_le]
    exact ht.1
  | _, _, .hs b len hb => by simp only [V.top]; exact hb
  | _, _, .rs b o len cap hb hc => by simp only [V.top]; exact hb
  | _, _, .map b hb => by simp only [V.top]; exact hb
  | _, _, .nilm => by simp [V.top]
  | _, _, .func f a c xa xc ha hc => by simp only [V.top]; exact Nat.max_le.2 ⟨ha.top_le, hc.top_le⟩
  | _, _, .yield l hb => by simp only [V.top]; exact hb
  | _, _, .nilf => by simp [V.top]
  | _, _, .agg cs xs hl => by simp only [V.top]; exact hl.top_le
  | _, _, .tuple vs xs hl => by simp only [V.top]; exact hl.top_le
theorem CR.top_le : ∀ {v : V} {xs : List Value}, CR w κ v xs → v.top ≤ κ.n
  | _, _, .agg cs xs hl => by simp only [V.top]; exact hl.top_le
  | _, _, .one v x hn hv => hv.top_le
theorem RR.top_le : ∀ {k : Nat} {es : List V} {xs : List Value}, RR w κ k es xs → topL es ≤ κ.n
  | _, _, _, .nil k => by simp [topL]
  | _, _, _, .cons k e es xs ys hc hk hr => by simp only [topL]; exact Nat.max_le.2 ⟨hc.top_le, hr.top_le⟩
theorem VRL.top_le : ∀ {vs : List V} {xs : List Value}, VRL w κ vs xs → topL vs ≤ κ.n
  | _, _, .nil => by simp [topL]
  | _, _, .cons v vs x xs hv hr => by simp only [topL]; exact Nat.max_le.2 ⟨hv.top_le, hr.top_le⟩
end

theorem TipOk.cut {n : Nat} {t : Tip} {base : Option Addr} {cap m : Nat} {U : Nat → Prop} (h : TipOk κ n t base cap) (ht : ∀ i, t = .own i → i < m) : TipOk (κ.cut m U) n t base cap := by
  cases t <;> try exact h
  exact ⟨ht _ rfl, h.2⟩

mutual
theorem VR.cut {m : Nat} {U : Nat → Prop} : ∀ {v : V} {x : Value}, VR w κ v x → v.top ≤ m → VR w (κ.cut m U) v x
  | _, _, .undef x, _ => .undef x
  | _, _, .bool b, _ => .bool b
  | _, _, .int k n, _ => .int k n
  | _, _, .ptr b o hb, h => .ptr (κ := κ.cut m U) b o h
  | _, _, .vptr v B o xs hc hm, h => .vptr v B o xs (hc.cut h) hm
  | _, _, .nilp, _ => .nilp
  | _, _, .slice k es t base cap xs hr hb hc ht, h => .slice k es t base cap xs (hr.cut (Nat.le_trans (Nat.le_max_left _ _) h)) hb hc (ht.cut fun i hi => by subst hi; simp only [V.top] at h; exact (Nat.max_le.1 h).2)
  | _, _, .hs b len hb, h => .hs (κ := κ.cut m U) b len h
  | _, _, .rs b o len cap hb hc, h => .rs (κ := κ.cut m U) b o len cap h hc
  | _, _, .map b hb, h => .map (κ := κ.cut m U) b h
  | _, _, .nilm, _ => .nilm
  | _, _, .func f a c xa xc ha hc, h => .func f a c xa xc (ha.cut (Nat.le_trans (Nat.le_max_left _ _) h)) (hc.cut (Nat.le_trans (Nat.le_max_right _ _) h))
  | _, _, .yield l hb, h => .yield (κ := κ.cut m U) l h
  | _, _, .nilf, _ => .nilf
  | _, _, .agg cs xs hl, h => .agg cs xs (hl.cut h)
  | _, _, .tuple vs xs hl, h => .tuple vs xs (hl.cut h)
theorem CR.cut {m : Nat} {U : Nat → Prop} : ∀ {v : V} {xs : List Value}, CR w κ v xs → v.top ≤ m → CR w (κ.cut m U) v xs
  | _, _, .agg cs xs hl, h => .agg cs xs (hl.cut h)
  | _, _, .one v x hn hv, h => .one v x hn (hv.cut h)
theorem RR.cut {m : Nat} {U : Nat → Prop} : ∀ {k : Nat} {es : List V} {xs : List Value}, RR w κ k es xs → topL es ≤ m → RR w (κ.cut m U) k es xs
  | _, _, _, .nil k, _ => .nil k
  | _, _, _, .cons k e es xs ys hc hk hr, h => .cons k e es xs ys (hc.cut (Nat.le_trans (Nat.le_max_left _ _) h)) hk (hr.cut (Nat.le_trans (Nat.le_max_right _ _) h))
theorem VRL.cut {m : Nat} {U : Nat → Prop} : ∀ {vs : List V} {xs : List Value}, VRL w κ vs xs → topL vs ≤ m → VRL w (κ.cut m U) vs xs
  | _, _, .nil, _ => .nil
  | _, _, .cons v vs x xs hv hr, h => .cons v vs x xs (hv.cut (Nat.le_trans (Nat.le_max_left _ _) h)) (hr.cut (Nat.le_trans (Nat.le_max_right _ _) h))
end

mutual
theorem VR.clasp : ∀ {v : V} {x : Value}, VR w κ v x → VR w κ v.clasp x
  | _, _, .undef x => .undef x
  | _, _, .bool b => .bool b
  | _, _, .int k n => .int k n
  | _, _, .ptr b o hb => .ptr b o hb
  | _, _, .vptr v B o xs hc hm => .vptr v B o xs hc hm
  | _, _, .nilp => .nilp
  | _, _, .slice k es t base cap xs hr hb hc ht => by
    cases t <;> first
      | exact .slice k es _ base cap xs hr hb hc ht
      | exact .slice k es .any base cap xs hr hb hc trivial
  | _, _, .hs b len hb => .hs b len hb
  | _, _, .rs b o len cap hb hc => .rs b o len cap hb hc
  | _, _, .map b hb => .map b hb
  | _, _, .nilm => .nilm
  | _, _, .func f a c xa xc ha hc => .func f a c xa xc ha hc
  | _, _, .yield l hb => .yield l hb
  | _, _, .nilf => .nilf
  | _, _, .agg cs xs hl => by simp only [V.clasp]; exact .agg _ xs hl.clasp
  | _, _, .tuple vs xs hl => by simp only [V.clasp]; exact .tuple _ xs hl.clasp
theorem VRL.clasp : ∀ {vs : List V} {xs : List Value}, VRL w κ vs xs → VRL w κ (sealL vs) xs
  | _, _, .nil => .nil
  | _, _, .cons v vs x xs hv hr => by simp only [sealL]; exact .cons _ _ _ _ hv.clasp hr.clasp
end

/-- what an object holds names no place at m or above -/
def HObj.below (m : Nat) : HObj → Prop
  | .cells cs => topL cs ≤ m
  | .map es => ∀ p ∈ es, p.1.top ≤ m ∧ p.2.top ≤ m
  | .loop r => ∀ t v, alook t r.env = some v → v.top ≤ m
  | _ => True

theorem MR.tops : ∀ {es : List (V × V)} {ms : List MapEntry}, MR w κ es ms → ∀ p ∈ es, p.1.top ≤ κ.n ∧ p.2.top ≤ κ.n
  | _, _, .nil => by simp
  | _, _, .cons k v es m ms hk hv hr => by
    intro p hp
    rcases List.mem_cons.1 hp with rfl | hp
    · exact ⟨hk.top_le, hv.top_le⟩
    · exact hr.tops p hp
theorem MR.cut {m : Nat} {U : Nat → Prop} : ∀ {es : List (V × V)} {ms : List MapEntry}, MR w κ es ms → (∀ p ∈ es, p.1.top ≤ m ∧ p.2.top ≤ m) → MR w (κ.cut m U) es ms
  | _, _, .nil, _ => .nil
  | _, _, .cons k v es mm ms hk hv hr, h => .cons _ _ _ _ _ (hk.cut (h _ (List.mem_cons_self ..)).1) (hv.cut (h _ (List.mem_cons_self ..)).2) (hr.cut fun p hp => h p (List.mem_cons_of_mem _ hp))

variable {chk : Nat → Code → VCode → Bool} {h h' : H}
theorem ObjR.below {i : Nat} {o : HObj} (r : ObjR chk w κ i o) : o.below κ.n := by
  cases o with
  | cells cs => obtain ⟨xs, e, a, b⟩ := r; exact b.top_le
  | map es => obtain ⟨ms, c, a, b⟩ := r; exact b.tops
  | tip k u => trivial
  | loop q => obtain ⟨L, a, b, c, d, f⟩ := r; intro t v ht; exact (d t v ht).top_le
  | dead => trivial
theorem ObjR.cut {m : Nat} {U : Nat → Prop} {i : Nat} {o : HObj} (r : ObjR chk w κ i o) (hb : o.below m) : ObjR chk w (κ.cut m U) i o := by
  cases o with
  | cells cs => obtain ⟨xs, e, a, b⟩ := r; exact ⟨xs, e, a, b.cut hb⟩
  | map es => obtain ⟨ms, c, a, b⟩ := r; exact ⟨ms, c, a, b.cut hb⟩
  | tip k u => exact r
  | loop q => obtain ⟨L, a, b, c, d, f⟩ := r; exact ⟨L, a, b, c, fun t v ht => (d t v ht).cut (hb t v ht), f⟩
  | dead => trivial

theorem home_cut {m : Nat} {U : Nat → Prop} {i : Nat} {o : HObj} : home (κ.cut m U) i o = home κ i o := by cases o <;> rfl
theorem foot_cut {m : Nat} {U : Nat → Prop} {i : Nat} {o : HObj} {B off : Nat} : Foot (κ.cut m U) i o B off ↔ Foot κ i o B off := by cases o <;> rfl

/-- fewer places, fewer framed blocks -/
theorem Rel.cut (R : Rel chk κ h w) {m : Nat} {U : Nat → Prop} (hU : ∀ b, U b → κ.U b) (hB : ∀ b, b < κ.base → U b) (hn : m = h'.next)
    (hget : ∀ i o, h'.get i = some o → h.get i = some o ∧ i < m ∧ o.below m) : Rel chk (κ.cut m U) h' w where
  n := hn
  obj i o hg := let ⟨a, b, c⟩ := hget i o hg; ⟨hn ▸ b, (R.obj i o a).2.cut c⟩
  homes i j o p hi hj hne ho hp := by
    rw [home_cut, home_cut]; exact R.homes i j o p (hget i o hi).1 (hget j p hj).1 hne ho hp
  sdis i o hg B off hs hf := R.sdis i o (hget i o hg).1 B off hs (foot_cut.1 hf)
  udis i o hg ho hu := by rw [home_cut] at hu; exact R.udis i o (hget i o hg).1 ho (hU _ hu)
  slt := R.slt
  ult b hu := R.ult b (hU b hu)
  us b off hu := R.us b off (hU b hu)
  bu := hB

theorem Rel.below (R : Rel chk κ h w) {i : Nat} {o : HObj} (hg : h.get i = some o) : o.below h.next := by rw [← R.n]; exact (R.obj i o hg).2.below

/-- memory turns at framed blocks alone, and they are framed no more -/
theorem Rel.unframe (R : Rel chk κ h w) {U : Nat → Prop} (hU : ∀ b, U b → κ.U b) (hB : ∀ b, b < κ.base → U b) (ho : w'.os = w.os ∧ w'.output = w.output) (hs : w'.heap.size = w.heap.size)
    (hw : ∀ c, ¬ (κ.U c ∧ ¬ U c) → w'.heap[c]? = w.heap[c]?) : Ext (κ.cut κ.n U) w (κ.cut κ.n U) w' ∧ Rel chk (κ.cut κ.n U) h w' := by
  have R1 : Rel chk (κ.cut κ.n U) h w := R.cut hU hB R.n (fun i o hg => ⟨hg, by rw [R.n]; exact (R.obj i o hg).1, by rw [R.n]; exact R.below hg⟩)
  have X : Ext (κ.cut κ.n U) w (κ.cut κ.n U) w' := by
    refine ⟨Nat.le_refl _, fun _ _ => rfl, fun _ _ => .inl rfl, fun B off hS => ⟨hS, ?_⟩, fun b hb => ⟨hb, hw b (fun ⟨_, c⟩ => c hb)⟩, by omega, rfl, ho.1, ho.2⟩
    exact cell_of_heap (hw B (fun ⟨a, c⟩ => c (hB B (R.us B off a hS)))) off
  refine ⟨X, R1.frame X R1.n (Nat.le_refl _) none (fun _ _ => rfl) ?_ (fun i o hj => by cases hj) (fun B off hS => .inl hS) (fun _ hu => hu)⟩
  intro i o _ hg
  refine ⟨rfl, fun ho => hw _ fun ⟨a, _⟩ => ?_⟩
  rw [home_cut] at a
  exact R.udis i o hg ho a
end
end Go.Vi
