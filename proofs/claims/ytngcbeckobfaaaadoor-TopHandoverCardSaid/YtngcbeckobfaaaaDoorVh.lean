/- What each change of memory does to the relation (Vr). No statement of a claim stands here. -/
import Derived.Test.YtngcbeckobfaaaaDoorVo
set_option linter.unusedSimpArgs false
set_option linter.unusedVariables false
namespace Go.Vi
open Go

theorem alook_cons {α : Type} (k i : Nat) (a : α) (r : List (Nat × α)) : alook k ((i, a) :: r) = if i = k then some a else alook k r := by
  simp only [alook]
  cases h : Nat.beq i k with
  | true => simp [Nat.eq_of_beq_eq_true h]
  | false => simp [Nat.ne_of_beq_eq_false h]
theorem alook_aset {α : Type} (k i : Nat) (v : α) : ∀ (r : List (Nat × α)), alook i (aset k v r) = if i = k then (alook k r).map (fun _ => v) else alook i r
  | [] => by simp [aset, alook]
  | (j, a) :: r => by
    simp only [aset]
    cases h : Nat.beq j k with
    | true =>
      have := Nat.eq_of_beq_eq_true h; subst this
      simp only [alook_cons]
      by_cases hi : i = j
      · subst hi; simp
      · have hi' : ¬ j = i := fun e => hi e.symm
        simp [hi, hi']
    | false =>
      have hjk := Nat.ne_of_beq_eq_false h
      simp only [alook_cons, alook_aset k i v r]
      by_cases hi : i = k
      · subst hi; simp [hjk]
      · simp [hi]

theorem H.get_new (h : H) (o : HObj) (i : Nat) : (h.new o).get i = if i = h.next then some o else h.get i := by
  simp only [H.get, H.new, alook_cons]
  by_cases e : i = h.next
  · simp [e]
  · have e' : ¬ h.next = i := fun x => e x.symm
    simp [e, e']
theorem H.get_set (h : H) (b : Nat) (o : HObj) (i : Nat) : (h.set b o).get i = if i = b then (h.get b).map (fun _ => o) else h.get i := by
  simp only [H.get, H.set, alook_aset]
@[simp] theorem H.next_new (h : H) (o : HObj) : (h.new o).next = h.next + 1 := rfl
@[simp] theorem H.next_set (h : H) (b : Nat) (o : HObj) : (h.set b o).next = h.next := rfl

section
variable {chk : Nat → Code → VCode → Bool} {w w' : World} {κ κ' : K} {h h' : H}

theorem ObjR.mono (X : Ext κ w κ' w') {i : Nat} (hi : i < κ.n) {o : HObj} (ht : κ'.tb i = κ.tb i) (hh : o.alive = true → w'.heap[home κ i o]? = w.heap[home κ i o]?) (r : ObjR chk w κ i o) : ObjR chk w' κ' i o := by
  have hm := X.mu i hi
  cases o with
  | cells cs => obtain ⟨xs, e, a, b⟩ := r; exact ⟨xs, e, by rw [hm]; exact (hh rfl).trans a, b.mono X⟩
  | map es => obtain ⟨ms, c, a, b⟩ := r; exact ⟨ms, c, by rw [hm]; exact (hh rfl).trans a, b.mono X⟩
  | tip k u => obtain ⟨a, b, xs, e, c, d⟩ := r; exact ⟨by rw [ht]; exact a, by rw [ht]; exact b, xs, e, by rw [ht]; exact (hh rfl).trans c, by rw [ht]; exact d⟩
  | loop q => obtain ⟨L, a, b, c, d, f⟩ := r; exact ⟨L, by rw [hm]; exact (hh rfl).trans a, b, c, d.mono X, f⟩
  | dead => trivial

theorem Foot.home_eq {i : Nat} {o : HObj} {B off : Nat} (hf : Foot κ i o B off) : B = home κ i o := by
  cases o <;> simp only [Foot, home] at hf ⊢ <;> first | exact hf | exact hf.1 | exact hf.elim
theorem Foot.alive {i : Nat} {o : HObj} {B off : Nat} (hf : Foot κ i o B off) : o.alive = true := by
  cases o <;> first | rfl | exact hf.elim

/-- one object (j) is changed or added; the others stay -/
theorem Rel.frame (R : Rel chk κ h w) (X : Ext κ w κ' w') (hn : κ'.n = h'.next) (hle : h.next ≤ h'.next) (j : Option Nat)
    (hget : ∀ i, some i ≠ j → h'.get i = h.get i)
    (hkeep : ∀ i o, some i ≠ j → h.get i = some o → κ'.tb i = κ.tb i ∧ (o.alive = true → w'.heap[home κ i o]? = w.heap[home κ i o]?))
    (hnew : ∀ i o, some i = j → h'.get i = some o → i < h'.next ∧ ObjR chk w' κ' i o ∧
      (o.alive = true → (∀ i' o', i' ≠ i → h.get i' = some o' → o'.alive = true → home κ i' o' ≠ home κ' i o) ∧ ¬ κ'.U (home κ' i o)) ∧
      ∀ B off, κ'.S B off → ¬ Foot κ' i o B off)
    (hS : ∀ B off, κ'.S B off → κ.S B off ∨ (B < w'.heap.size ∧ ¬ κ'.U B ∧ ∀ i o, some i ≠ j → h.get i = some o → ¬ Foot κ i o B off))
    (hU : ∀ b, κ'.U b → κ.U b) : Rel chk κ' h' w' := by
  have hhome : ∀ i o, some i ≠ j → h.get i = some o → home κ' i o = home κ i o := by
    intro i o hj hg
    have hi := (R.obj i o hg).1
    have ht := (hkeep i o hj hg).1
    cases o <;> simp only [home] <;> first | rw [ht] | exact X.mu i (by rw [R.n]; exact hi)
  have hfoot : ∀ i o B off, some i ≠ j → h.get i = some o → Foot κ' i o B off → Foot κ i o B off := by
    intro i o B off hj hg hf
    have hi := (R.obj i o hg).1
    have ht := (hkeep i o hj hg).1
    have hm := X.mu i (by rw [R.n]; exact hi)
    cases o <;> simp only [Foot, ht, hm] at hf ⊢ <;> exact hf
  refine ⟨hn, ?_, ?_, ?_, ?_, ?_, ?_, ?_, fun b hb => (X.U b (R.bu b (by rw [← X.out.1]; exact hb))).1⟩
  · intro i o hg
    by_cases hj : some i = j
    · obtain ⟨a, b, _⟩ := hnew i o hj hg; exact ⟨a, b⟩
    · rw [hget i hj] at hg
      obtain ⟨a, b⟩ := R.obj i o hg
      obtain ⟨c, d⟩ := hkeep i o hj hg
      exact ⟨Nat.lt_of_lt_of_le a hle, b.mono X (by rw [R.n]; exact a) c d⟩
  · intro i k o p hi hk hne ho hp
    by_cases hj : some i = j
    · have hk' : some k ≠ j := fun e => hne (Option.some.inj (hj.trans e.symm))
      rw [hget k hk'] at hk
      obtain ⟨_, _, hh, _⟩ := hnew i o hj hi
      rw [hhome k p hk' hk]
      exact fun e => (hh ho).1 k p (fun e => hne e.symm) hk hp e.symm
    · rw [hget i hj] at hi
      rw [hhome i o hj hi]
      by_cases hk' : some k = j
      · obtain ⟨_, _, hh, _⟩ := hnew k p hk' hk
        exact (hh hp).1 i o hne hi ho
      · rw [hget k hk'] at hk
        rw [hhome k p hk' hk]
        exact R.homes i k o p hi hk hne ho hp
  · intro i o hg B off hs
    by_cases hj : some i = j
    · exact (hnew i o hj hg).2.2.2 B off hs
    · rw [hget i hj] at hg
      intro hf
      have hf' := hfoot i o B off hj hg hf
      rcases hS B off hs with hs' | ⟨_, _, hs'⟩
      · exact R.sdis i o hg B off hs' hf'
      · exact hs' i o hj hg hf'
  · intro i o hg ho hu
    by_cases hj : some i = j
    · exact ((hnew i o hj hg).2.2.1 ho).2 hu
    · rw [hget i hj] at hg
      rw [hhome i o hj hg] at hu
      exact R.udis i o hg ho (hU _ hu)
  · intro B off hs
    rcases hS B off hs with hs' | ⟨hs', _⟩
    · exact Nat.lt_of_lt_of_le (R.slt B off hs') X.size
    · exact hs'
  · intro b hu; exact Nat.lt_of_lt_of_le (R.ult b (hU b hu)) X.size
  · intro b off hu hs
    rcases hS b off hs with hs' | ⟨_, hs', _⟩
    · rw [X.out.1]; exact R.us b off (hU b hu) hs'
    · exact absurd hu hs'

theorem ObjR.home_lt {i : Nat} {o : HObj} (r : ObjR chk w κ i o) (ho : o.alive = true) : home κ i o < w.heap.size := by
  cases o with
  | cells cs => obtain ⟨xs, e, a, b⟩ := r; exact (Array.getElem?_eq_some_iff.1 a).1
  | map es => obtain ⟨ms, c, a, b⟩ := r; exact (Array.getElem?_eq_some_iff.1 a).1
  | tip k u => obtain ⟨a, b, xs, e, c, d⟩ := r; exact (Array.getElem?_eq_some_iff.1 c).1
  | loop q => obtain ⟨L, a, b⟩ := r; exact (Array.getElem?_eq_some_iff.1 a).1
  | dead => cases ho

/-- the heap with one block more -/
def push (w : World) (o : Obj) : World := w.alloc o
theorem push_heap (w : World) (o : Obj) : (push w o).heap = w.heap.push o := rfl
theorem push_old (w : World) (o : Obj) {b : Nat} (hb : b < w.heap.size) : (push w o).heap[b]? = w.heap[b]? := by
  rw [push_heap, Array.getElem?_push, if_neg (Nat.ne_of_lt hb)]
theorem push_new (w : World) (o : Obj) : (push w o).heap[w.heap.size]? = some o := by rw [push_heap, Array.getElem?_push, if_pos rfl]
theorem push_size (w : World) (o : Obj) : (push w o).heap.size = w.heap.size + 1 := by rw [push_heap, Array.size_push]
theorem cell_of_heap {w w' : World} {B : Nat} (hb : w'.heap[B]? = w.heap[B]?) (o : Nat) : w'.cell? ⟨B, o, none⟩ = w.cell? ⟨B, o, none⟩ := by
  simp [World.cell?, hb]

theorem Rel.ext_push (R : Rel chk κ h w) (o : Obj) (hn : κ.n ≤ κ'.n) (hm : ∀ i, i < κ.n → κ'.mu i = κ.mu i) (ht : ∀ i, i < κ.n → κ'.tb i = κ.tb i)
    (hS : ∀ B off, κ.S B off → κ'.S B off) (hU : ∀ b, κ.U b → κ'.U b) (hB : κ'.base = κ.base := by rfl) : Ext κ w κ' (push w o) :=
  ⟨hn, hm, fun i hi => .inl (ht i hi), fun B off hs => ⟨hS B off hs, cell_of_heap (push_old w o (R.slt B off hs)) off⟩,
    fun b hu => ⟨hU b hu, push_old w o (R.ult b hu)⟩, by rw [push_size]; omega, hB, rfl, rfl⟩

/-- a new block that is never written again -/
def K.clasp (κ : K) (b : Nat) : K := { κ with S := fun B off => κ.S B off ∨ B = b }
theorem Rel.push_sealed (R : Rel chk κ h w) (xs : List Value) (t : TypeId) (hone : ∀ x ∈ xs, x.oneCell' = true) : Ext κ w (κ.clasp w.heap.size) (push w (.cells ⟨xs⟩ t)) ∧ Rel chk (κ.clasp w.heap.size) h (push w (.cells ⟨xs⟩ t)) ∧
    Mem (push w (.cells ⟨xs⟩ t)) (κ.clasp w.heap.size) w.heap.size 0 xs := by
  have X : Ext κ w (κ.clasp w.heap.size) (push w (.cells ⟨xs⟩ t)) := R.ext_push _ (Nat.le_refl _) (fun _ _ => rfl) (fun _ _ => rfl) (fun _ _ hs => .inl hs) (fun _ hu => hu)
  refine ⟨X, R.frame X R.n (Nat.le_refl _) none (fun _ _ => rfl) ?_ (fun i o hj => by cases hj) ?_ (fun b hu => hu), ?_⟩
  · intro i o _ hg
    refine ⟨rfl, fun ho => push_old w _ ((R.obj i o hg).2.home_lt ho)⟩
  · rintro B off (hs | rfl)
    · exact .inl hs
    · refine .inr ⟨by rw [push_size]; omega, fun hu => absurd (R.ult _ hu) (Nat.lt_irrefl _), fun i o _ hg hf => ?_⟩
      have := (R.obj i o hg).2.home_lt hf.alive
      rw [← hf.home_eq] at this
      exact Nat.lt_irrefl _ this
  · intro i x hx
    refine ⟨.inr rfl, ?_, hone x (List.mem_of_getElem? hx)⟩
    rw [cell_of (push_new w _)]
    simpa using hx

/-- a new object in a new block of its own -/
def K.place (κ : K) (b : Nat) : K := { κ with n := κ.n + 1, mu := fun i => if i = κ.n then b else κ.mu i }
theorem Rel.push_place (R : Rel chk κ h w) (o : Obj) (p : HObj) (hp : p.alive = true) (ht : ∀ k u, p ≠ .tip k u)
    (hr : Ext κ w (κ.place w.heap.size) (push w o) → ObjR chk (push w o) (κ.place w.heap.size) κ.n p) :
    Ext κ w (κ.place w.heap.size) (push w o) ∧ Rel chk (κ.place w.heap.size) (h.new p) (push w o) := by
  have X : Ext κ w (κ.place w.heap.size) (push w o) := R.ext_push _ (Nat.le_succ _) (fun i hi => by simp [K.place, Nat.ne_of_lt hi]) (fun _ _ => rfl) (fun _ _ hs => hs) (fun _ hu => hu)
  refine ⟨X, R.frame X (by simp [K.place, R.n]) (Nat.le_succ _) (some h.next) ?_ ?_ ?_ (fun B off hs => .inl hs) (fun b hu => hu)⟩
  · intro i hi; rw [H.get_new, if_neg (fun e => hi (by rw [e]))]
  · intro i q hi hg; exact ⟨rfl, fun ho => push_old w _ ((R.obj i q hg).2.home_lt ho)⟩
  · intro i q hi hg
    cases hi
    rw [H.get_new, if_pos rfl] at hg
    cases hg
    have hhome : home (κ.place w.heap.size) h.next p = w.heap.size := by
      cases p <;> simp only [home, K.place, R.n, if_true] <;> exact absurd rfl (ht _ _)
    refine ⟨Nat.lt_succ_self _, by rw [← R.n]; exact hr X, fun _ => ⟨?_, ?_⟩, ?_⟩
    · intro i' o' hne hg' ho'
      rw [hhome]
      exact Nat.ne_of_lt ((R.obj i' o' hg').2.home_lt ho')
    · rw [hhome]; exact fun hu => absurd (R.ult _ hu) (Nat.lt_irrefl _)
    · intro B off hs hf
      have := hf.home_eq
      rw [hhome] at this
      subst this
      exact absurd (R.slt _ _ hs) (Nat.lt_irrefl _)

/-- an object's own block is written -/
theorem Rel.write (R : Rel chk κ h w) {b : Nat} {p q : HObj} (hg : h.get b = some p) (hp : p.alive = true) (hh : home κ b q = home κ b p)
    (hf : ∀ B off, Foot κ b q B off → Foot κ b p B off)
    (hw : ∀ c, c ≠ home κ b p → w'.heap[c]? = w.heap[c]?) (hs : w'.heap.size = w.heap.size)
    (hcell : ∀ B off, κ.S B off → w'.cell? ⟨B, off, none⟩ = w.cell? ⟨B, off, none⟩)
    (hr : Ext κ w κ w' → ObjR chk w' κ b q) (hout : w'.os = w.os ∧ w'.output = w.output := by exact ⟨rfl, rfl⟩) : Ext κ w κ w' ∧ Rel chk κ (h.set b q) w' := by
  have X : Ext κ w κ w' := ⟨Nat.le_refl _, fun _ _ => rfl, fun _ _ => .inl rfl, fun B off h => ⟨h, hcell B off h⟩,
    fun c hu => ⟨hu, hw c (fun e => R.udis b p hg hp (e ▸ hu))⟩, by omega, rfl, hout.1, hout.2⟩
  refine ⟨X, R.frame X R.n (Nat.le_refl _) (some b) ?_ ?_ ?_ (fun B off hs => .inl hs) (fun _ hu => hu)⟩
  · intro i hi; rw [H.get_set, if_neg (fun e => hi (by rw [e]))]
  · intro i o hi hgi
    refine ⟨rfl, fun ho => hw _ (fun e => ?_)⟩
    exact R.homes i b o p hgi hg (fun e => hi (by rw [e])) ho hp e
  · intro i o hi hgi
    cases hi
    rw [H.get_set, if_pos rfl, hg] at hgi
    cases hgi
    refine ⟨(R.obj b p hg).1, hr X, fun _ => ⟨?_, ?_⟩, ?_⟩
    · intro i' o' hne hg' ho'
      rw [hh]
      exact R.homes i' b o' p hg' hg hne ho' hp
    · rw [hh]; exact R.udis b p hg hp
    · intro B off hs hfq
      exact R.sdis b p hg B off hs (hf B off hfq)
end
end Go.Vi
