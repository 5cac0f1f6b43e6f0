/- Plain law: rounds over bounds come to the least distances. No program stands here but for the shapes of its values. -/
import Derived.Test.YtngcbeckobfaaaaDoorBh
set_option linter.unusedSimpArgs false
set_option linter.unusedVariables false
namespace Go.Vi.Tryd
open Go Go.Vi

/-- least distances, and why -/
structure Dist (c : Ce) (bs : List Bd) (s N R : Nat) (d : Nat → Int) (rk : Nat → Nat) : Prop where
  sN : s < N
  N66 : N ≤ 66
  src : d s = 0
  range : ∀ v, v < N → 0 ≤ d v ∧ d v < far
  ends_ : ∀ b ∈ bs, ix c b.oc b.oh < N ∧ ix c b.vc b.vh < N ∧ 0 ≤ b.by_
  feas : ∀ b ∈ bs, d (ix c b.oc b.oh) ≤ d (ix c b.vc b.vh) + b.by_
  tight : ∀ v, v < N → v = s ∨ ∃ b ∈ bs, ix c b.oc b.oh = v ∧ d v = d (ix c b.vc b.vh) + b.by_ ∧ rk (ix c b.vc b.vh) < rk v
  bound : ∀ v, v < N → rk v ≤ R

section
variable {c : Ce} {bs : List Bd} {s N R : Nat} {d : Nat → Int} {rk : Nat → Nat}
def LB (d : Nat → Int) (N : Nat) (a : Nat → Int) : Prop := ∀ v, v < N → d v ≤ a v ∧ a v ≤ far
theorem relax_le (a : Nat → Int) (b : Bd) (v : Nat) : relax c a b v ≤ a v := by
  unfold relax
  split
  · exact Int.le_refl _
  · unfold upd
    split
    · rename_i h; subst h; split <;> omega
    · exact Int.le_refl _
theorem relax_lb (D : Dist c bs s N R d rk) {a : Nat → Int} {b : Bd} (hb : b ∈ bs) (h : LB d N a) : LB d N (relax c a b) := by
  intro v hv
  obtain ⟨h1, h2, h3⟩ := D.ends_ b hb
  have hf := D.feas b hb
  refine ⟨?_, Int.le_trans (relax_le a b v) (h v hv).2⟩
  unfold relax
  split
  · exact (h v hv).1
  · unfold upd
    split
    · rename_i e; subst e
      have := (h _ h2).1
      have := (h _ h1).1
      split <;> omega
    · exact (h v hv).1
theorem fold_le : ∀ (l : List Bd) (a : Nat → Int) (v : Nat), l.foldl (relax c) a v ≤ a v
  | [], a, v => Int.le_refl _
  | b :: l, a, v => Int.le_trans (fold_le l _ v) (relax_le a b v)
theorem fold_lb (D : Dist c bs s N R d rk) : ∀ (l : List Bd), (∀ b ∈ l, b ∈ bs) → ∀ {a : Nat → Int}, LB d N a → LB d N (l.foldl (relax c) a)
  | [], _, _, h => h
  | b :: l, hl, _, h => fold_lb D l (fun x hx => hl x (List.mem_cons_of_mem _ hx)) (relax_lb D (hl b (List.mem_cons_self ..)) h)
theorem fold_out (D : Dist c bs s N R d rk) : ∀ (l : List Bd), (∀ b ∈ l, b ∈ bs) → ∀ (a : Nat → Int) (v : Nat), N ≤ v → l.foldl (relax c) a v = a v
  | [], _, _, _, _ => rfl
  | b :: l, hl, a, v, hv => by
    rw [List.foldl_cons, fold_out D l (fun x hx => hl x (List.mem_cons_of_mem _ hx)) _ v hv]
    have := (D.ends_ b (hl b (List.mem_cons_self ..))).1
    unfold relax
    split
    · rfl
    · unfold upd; rw [if_neg (by omega)]
theorem fold_hit (D : Dist c bs s N R d rk) {b : Bd} : ∀ (l : List Bd), (∀ b ∈ l, b ∈ bs) → b ∈ l → ∀ {a : Nat → Int}, LB d N a → a (ix c b.vc b.vh) = d (ix c b.vc b.vh) → l.foldl (relax c) a (ix c b.oc b.oh) ≤ d (ix c b.vc b.vh) + b.by_
  | [], _, hb, _, _, _ => by cases hb
  | x :: l, hl, hb, a, h, ha => by
    have hx := hl x (List.mem_cons_self ..)
    have hl' : ∀ b ∈ l, b ∈ bs := fun y hy => hl y (List.mem_cons_of_mem _ hy)
    rw [List.foldl_cons]
    rcases List.mem_cons.1 hb with rfl | hb'
    · refine Int.le_trans (fold_le l _ _) ?_
      have hr := D.range _ (D.ends_ b hx).2.1
      unfold relax
      rw [if_neg (by rw [ha]; omega)]
      unfold upd
      rw [if_pos rfl, ha]
      split <;> omega
    · have h' := relax_lb D hx h
      refine fold_hit D l hl' hb' h' ?_
      have h1 := (h' _ (D.ends_ b (hl b hb)).2.1).1
      have h2 := relax_le (c := c) a x (ix c b.vc b.vh)
      omega

structure Inv (d : Nat → Int) (rk : Nat → Nat) (N r : Nat) (a : Nat → Int) : Prop where
  lb : LB d N a
  exact_ : ∀ v, v < N → rk v ≤ r → a v = d v
theorem Inv.pass (D : Dist c bs s N R d rk) {r : Nat} {a : Nat → Int} (i : Inv d rk N r a) (has : a s = 0) : Inv d rk N (r + 1) (bs.foldl (relax c) a) ∧ bs.foldl (relax c) a s = 0 := by
  have hl := fold_lb D bs (fun _ h => h) i.lb
  have old : ∀ v, v < N → a v = d v → bs.foldl (relax c) a v = d v := fun v hv h => by
    have h1 := (hl v hv).1
    have h2 := fold_le (c := c) bs a v
    omega
  have hs : bs.foldl (relax c) a s = 0 := by rw [old s D.sN (by rw [has, D.src]), D.src]
  refine ⟨⟨hl, fun v hv hr => ?_⟩, hs⟩
  rcases D.tight v hv with rfl | ⟨b, hb, h1, h2, h3⟩
  · rw [hs, D.src]
  · have := fold_hit D bs (fun _ h => h) hb i.lb (i.exact_ _ (D.ends_ b hb).2.1 (by omega))
    rw [h1] at this
    have := (hl v hv).1
    omega
theorem same66_of {a b : Nat → Int} (h : ∀ j, j < 66 → a j = b j) : same66 a b = true := by
  unfold same66
  rw [List.all_eq_true]
  intro j hj
  rw [h j (by simpa using hj)]
  simp
theorem of_same66 {a b : Nat → Int} (h : same66 a b = true) : ∀ j, j < 66 → a j = b j := by
  unfold same66 at h
  rw [List.all_eq_true] at h
  intro j hj
  simpa using h j (by simpa using hj)
theorem Inv.more (D : Dist c bs s N R d rk) {a : Nat → Int} (has : a s = 0) (hfix : bs.foldl (relax c) a = a) : ∀ (k r : Nat), Inv d rk N r a → Inv d rk N (r + k) a
  | 0, r, i => i
  | k + 1, r, i => by
    have := (i.pass D has).1
    rw [hfix] at this
    have := Inv.more D has hfix k (r + 1) this
    rwa [show r + (k + 1) = r + 1 + k by omega]
theorem iter_exact (D : Dist c bs s N R d rk) : ∀ (n r : Nat) (a : Nat → Int), Inv d rk N r a → a s = 0 → r ≤ R → R + 1 ≤ r + n → (iter c bs n a).2 = true ∧ ∀ v, v < N → (iter c bs n a).1 v = d v
  | 0, r, a, i, has, h1, h2 => by omega
  | n + 1, r, a, i, has, h1, h2 => by
    obtain ⟨p1, p2⟩ := i.pass D has
    simp only [iter]
    cases hs : same66 (bs.foldl (relax c) a) a with
    | true =>
      simp only [if_true, true_and]
      have hfix : bs.foldl (relax c) a = a := by
        funext v
        by_cases hv : v < 66
        · exact of_same66 hs v hv
        · exact fold_out D bs (fun _ h => h) a v (by have := D.N66; omega)
      have := Inv.more D has hfix (R - r) r i
      rw [hfix]
      intro v hv
      exact this.exact_ v hv (by have := D.bound v hv; omega)
    | false =>
      simp only [Bool.false_eq_true, if_false]
      by_cases hr : r = R
      · exfalso
        have : same66 (bs.foldl (relax c) a) a = true := by
          refine same66_of fun j hj => ?_
          by_cases hjN : j < N
          · rw [p1.exact_ j hjN (by have := D.bound j hjN; omega), i.exact_ j hjN (by have := D.bound j hjN; omega)]
          · exact fold_out D bs (fun _ h => h) a j (by omega)
        rw [hs] at this; cases this
      · exact iter_exact D n (r + 1) _ p1 p2 (by omega) (by omega)
theorem above_exact (D : Dist c bs s N R d rk) {n : Nat} (hn : R + 1 ≤ n) : (iter c bs n (init s)).2 = true ∧ ∀ v, v < N → (iter c bs n (init s)).1 v = d v := by
  refine iter_exact D n 0 (init s) ⟨fun v hv => ?_, fun v hv hr => ?_⟩ (by simp [init]) (Nat.zero_le _) (by omega)
  · have := D.range v hv
    unfold init
    split
    · rename_i h; subst h; rw [D.src]; exact ⟨Int.le_refl _, by decide⟩
    · omega
  · rcases D.tight v hv with rfl | ⟨b, hb, h1, h2, h3⟩
    · rw [D.src]; simp [init]
    · omega
end
end Go.Vi.Tryd
/- Plain law: the least distances in a cellar of two clocks, each compared with true time once. No program stands here but for the shapes of its values. -/
namespace Go.Vi.Tryd
open Go Go.Vi

def ab (x y : Nat) : Nat := if x ≤ y then y - x else x - y
def Dd (r : Int) (p h : Nat) : Int := r * (ab p h : Nat)
theorem Dd_self (r : Int) (p : Nat) : Dd r p p = 0 := by simp [Dd, ab]
theorem Dd_up {r : Int} {p h : Nat} (hp : p ≤ h) : Dd r p (h + 1) = Dd r p h + r := by
  have : ab p (h + 1) = ab p h + 1 := by unfold ab; rw [if_pos (by omega), if_pos hp]; omega
  unfold Dd; rw [this, Int.natCast_add, Int.mul_add]; simp
theorem Dd_down {r : Int} {p h : Nat} (hp : h < p) : Dd r p h = Dd r p (h + 1) + r := by
  have : ab p h = ab p (h + 1) + 1 := by unfold ab; rw [if_neg (by omega)]; split <;> omega
  unfold Dd; rw [this, Int.natCast_add, Int.mul_add]; simp
theorem Dd_bd {r : Int} {p h : Nat} (hr : 0 ≤ r ∧ r ≤ 100) (hp : p ≤ 12) (hh : h ≤ 12) : 0 ≤ Dd r p h ∧ Dd r p h ≤ 1200 := by
  have h1 : (0 : Int) ≤ (ab p h : Nat) := by omega
  have h2 : ((ab p h : Nat) : Int) ≤ 12 := by unfold ab; split <;> omega
  have h3 := Int.mul_nonneg hr.1 h1
  have h4 := Int.mul_le_mul_of_nonneg_left h2 hr.1
  unfold Dd
  omega
def rr (c : Ce) (k : Nat) : Int := if k = 0 then c.r0 else c.r1
theorem rr_bd {c : Ce} (hc : c.ok) (k : Nat) : 0 ≤ rr c k ∧ rr c k ≤ 100 := by
  unfold rr; split
  · exact ⟨hc.a0, hc.a1⟩
  · exact ⟨hc.b0, hc.b1⟩
theorem hr_le {c : Ce} (hc : c.ok) (k : Nat) : c.hr k ≤ c.H := by
  unfold Ce.hr; split
  · exact hc.h0
  · exact hc.h1

theorem ix_k (c : Ce) (k h : Nat) : ix c k h = 1 + k * (c.H + 1) + h := by
  unfold ix; rw [if_neg (by omega)]; simp
theorem ix_t (c : Ce) : ix c (-1) 0 = 0 := by simp [ix]
def at_ {α : Type} (c : Ce) (t : α) (f : Nat → Nat → α) (v : Nat) : α := if v = 0 then t else if v ≤ c.H + 1 then f 0 (v - 1) else f 1 (v - (c.H + 2))
theorem at_t {α : Type} (c : Ce) (t : α) (f : Nat → Nat → α) : at_ c t f (ix c (-1) 0) = t := by rw [ix_t]; rfl
theorem at_k {α : Type} (c : Ce) (t : α) (f : Nat → Nat → α) {k h : Nat} (hk : k < 2) (hh : h ≤ c.H) : at_ c t f (ix c k h) = f k h := by
  rw [ix_k]
  have : k = 0 ∨ k = 1 := by omega
  unfold at_
  rcases this with rfl | rfl
  · rw [if_neg (by omega), if_pos (by omega)]; congr 1; omega
  · rw [if_neg (by omega), if_neg (by omega)]; congr 1; omega
theorem ix_all (c : Ce) {v : Nat} (hv : v < 2 * (c.H + 1) + 1) : v = ix c (-1) 0 ∨ ∃ k h : Nat, k < 2 ∧ h ≤ c.H ∧ v = ix c k h := by
  by_cases h0 : v = 0
  · left; rw [ix_t]; exact h0
  · right
    by_cases h1 : v ≤ c.H + 1
    · exact ⟨0, v - 1, by omega, by omega, by rw [ix_k]; omega⟩
    · exact ⟨1, v - (c.H + 2), by omega, by omega, by rw [ix_k]; omega⟩

theorem gk_mem (k : Nat) (r : Int) : ∀ n h, h < n → (⟨k, (h : Int) + 1, k, h, r⟩ : Bd) ∈ gk k r n ∧ (⟨k, h, k, (h : Int) + 1, r⟩ : Bd) ∈ gk k r n
  | 0, h, hh => by omega
  | n + 1, h, hh => by
    simp only [gk, List.mem_append]
    by_cases e : h = n
    · subst e; simp
    · have := gk_mem k r n h (by omega)
      exact ⟨.inl this.1, .inl this.2⟩
theorem gk_cases {k : Nat} {r : Int} {b : Bd} : ∀ n, b ∈ gk k r n → ∃ h : Nat, h < n ∧ (b = ⟨k, (h : Int) + 1, k, h, r⟩ ∨ b = ⟨k, h, k, (h : Int) + 1, r⟩)
  | 0, hb => by cases hb
  | n + 1, hb => by
    simp only [gk, List.mem_append, List.mem_cons, List.not_mem_nil, or_false] at hb
    rcases hb with hb | hb
    · obtain ⟨h, h1, h2⟩ := gk_cases n hb; exact ⟨h, by omega, h2⟩
    · exact ⟨n, by omega, hb⟩
theorem hk_cases {k : Nat} {b : Bd} : ∀ n, b ∈ hk k n → ∃ h : Nat, h < n ∧ (b = ⟨k, h, -1, 0, 100000⟩ ∨ b = ⟨-1, 0, k, h, 100000⟩)
  | 0, hb => by cases hb
  | n + 1, hb => by
    simp only [hk, List.mem_append, List.mem_cons, List.not_mem_nil, or_false] at hb
    rcases hb with hb | hb
    · obtain ⟨h, h1, h2⟩ := hk_cases n hb; exact ⟨h, by omega, h2⟩
    · exact ⟨n, by omega, hb⟩
theorem readsUp_cases {c : Ce} {b : Bd} : ∀ n, b ∈ readsUp c n → ∃ i : Nat, i < 2 ∧ b ∈ said i (c.hr i)
  | 0, hb => by cases hb
  | n + 1, hb => by
    simp only [readsUp, List.mem_append] at hb
    rcases hb with hb | hb | hb
    · exact readsUp_cases n hb
    · unfold newAt at hb
      split at hb
      · rename_i e; exact ⟨0, by omega, by rw [e]; exact hb⟩
      · cases hb
    · unfold newAt at hb
      split at hb
      · rename_i e; exact ⟨1, by omega, by rw [e]; exact hb⟩
      · cases hb
theorem allB_g (c : Ce) {k h : Nat} (hk : k < 2) (hh : h < c.H) : (⟨k, (h : Int) + 1, k, h, rr c k⟩ : Bd) ∈ allB c ∧ (⟨k, h, k, (h : Int) + 1, rr c k⟩ : Bd) ∈ allB c := by
  have : k = 0 ∨ k = 1 := by omega
  simp only [allB, growsF, List.mem_append]
  rcases this with rfl | rfl
  · have := gk_mem 0 c.r0 c.H h hh
    exact ⟨.inl (.inl (.inl this.1)), .inl (.inl (.inl this.2))⟩
  · have := gk_mem 1 c.r1 c.H h hh
    exact ⟨.inl (.inl (.inr this.1)), .inl (.inl (.inr this.2))⟩
theorem allB_s {c : Ce} (hc : c.ok) {i : Nat} (hi : i < 2) : ∀ b ∈ said i (c.hr i), b ∈ allB c := by
  intro b hb
  simp only [allB, List.mem_append]
  exact .inl (.inr (readsUp_mem c i (c.H + 1) (by have := hr_le hc i; omega) hi b hb))
theorem allB_cases {c : Ce} {b : Bd} (hb : b ∈ allB c) : (∃ k h : Nat, k < 2 ∧ h < c.H ∧ (b = ⟨k, (h : Int) + 1, k, h, rr c k⟩ ∨ b = ⟨k, h, k, (h : Int) + 1, rr c k⟩)) ∨ (∃ i : Nat, i < 2 ∧ b ∈ said i (c.hr i)) ∨
    ∃ k h : Nat, k < 2 ∧ h ≤ c.H ∧ (b = ⟨k, h, -1, 0, 100000⟩ ∨ b = ⟨-1, 0, k, h, 100000⟩) := by
  simp only [allB, growsF, holdsF, List.mem_append] at hb
  rcases hb with ((hb | hb) | hb) | hb | hb
  · obtain ⟨h, h1, h2⟩ := gk_cases _ hb; exact .inl ⟨0, h, by omega, h1, h2⟩
  · obtain ⟨h, h1, h2⟩ := gk_cases _ hb; exact .inl ⟨1, h, by omega, h1, h2⟩
  · obtain ⟨i, h1, h2⟩ := readsUp_cases _ hb; exact .inr (.inl ⟨i, h1, h2⟩)
  · obtain ⟨h, h1, h2⟩ := hk_cases _ hb; exact .inr (.inr ⟨0, h, by omega, by omega, h2⟩)
  · obtain ⟨h, h1, h2⟩ := hk_cases _ hb; exact .inr (.inr ⟨1, h, by omega, by omega, h2⟩)

/-- how the distances lie: each clock's from a centre on, true time's, and where they begin -/
structure Lay (c : Ce) (s : Nat) (A : Nat → Int) (m B : Nat → Nat) (dt : Int) (rt : Nat) : Prop where
  hm : ∀ k, k < 2 → m k ≤ c.H
  hA : ∀ k, k < 2 → 0 ≤ A k ∧ A k ≤ 2000
  hdt : 0 ≤ dt ∧ dt ≤ 2000
  c2 : ∀ k, k < 2 → A k + Dd (rr c k) (m k) (c.hr k) = dt
  tt : (s = 0 ∧ dt = 0) ∨ ∃ k : Nat, k < 2 ∧ B k + ab (m k) (c.hr k) < rt
  tc : ∀ k : Nat, k < 2 → (s = ix c k (m k) ∧ A k = 0) ∨ (m k = c.hr k ∧ rt < B k)
  hs : (s = 0 ∧ dt = 0) ∨ ∃ k : Nat, k < 2 ∧ s = ix c k (m k) ∧ A k = 0
  rbt : rt ≤ 2 * c.H + 2
  rb : ∀ k h : Nat, k < 2 → h ≤ c.H → B k + ab (m k) h ≤ 2 * c.H + 2
def layD (c : Ce) (A : Nat → Int) (m : Nat → Nat) (dt : Int) : Nat → Int := at_ c dt fun k h => A k + Dd (rr c k) (m k) h
def layR (c : Ce) (m B : Nat → Nat) (rt : Nat) : Nat → Nat := at_ c rt fun k h => B k + ab (m k) h
theorem Lay.dist {c : Ce} {s : Nat} {A : Nat → Int} {m B : Nat → Nat} {dt : Int} {rt : Nat} (hc : c.ok) (L : Lay c s A m B dt rt) : Dist c (allB c) s (2 * (c.H + 1) + 1) (2 * c.H + 2) (layD c A m dt) (layR c m B rt) := by
  have hH := hc.H2
  have dk : ∀ {k h : Nat}, k < 2 → h ≤ c.H → layD c A m dt (ix c k h) = A k + Dd (rr c k) (m k) h := fun hk hh => at_k c _ _ hk hh
  have dT : layD c A m dt (ix c (-1) 0) = dt := at_t c _ _
  have rk : ∀ {k h : Nat}, k < 2 → h ≤ c.H → layR c m B rt (ix c k h) = B k + ab (m k) h := fun hk hh => at_k c _ _ hk hh
  have rT : layR c m B rt (ix c (-1) 0) = rt := at_t c _ _
  have bd : ∀ {k h : Nat}, k < 2 → h ≤ c.H → 0 ≤ A k + Dd (rr c k) (m k) h ∧ A k + Dd (rr c k) (m k) h ≤ 4000 := fun {k h} hk hh => by
    have h1 := L.hA k hk
    have h2 := Dd_bd (rr_bd hc k) (p := m k) (h := h) (by have := L.hm k hk; omega) (by omega)
    omega
  have hdt := L.hdt
  refine ⟨?_, by omega, ?_, ?_, ?_, ?_, ?_, ?_⟩
  · rcases L.hs with ⟨h1, -⟩ | ⟨k, h1, h2, -⟩
    · omega
    · rw [h2, ix_k]
      have := L.hm k h1
      have : k = 0 ∨ k = 1 := by omega
      rcases this with rfl | rfl <;> omega
  · rcases L.hs with ⟨h1, h2⟩ | ⟨k, h1, h2, h3⟩
    · rw [h1, ← ix_t c, dT, h2]
    · rw [h2, dk h1 (L.hm k h1), Dd_self, h3]; rfl
  · intro v hv
    rcases ix_all c hv with rfl | ⟨k, h, h1, h2, rfl⟩
    · rw [dT]; unfold far; omega
    · rw [dk h1 h2]; have := bd h1 h2; unfold far; omega
  · intro b hb
    have := allB_ok hc b hb
    exact ⟨ix_lt this.of_, ix_lt this.over, this.lo⟩
  · intro b hb
    rcases allB_cases hb with ⟨k, h, h1, h2, rfl | rfl⟩ | ⟨i, h1, hb⟩ | ⟨k, h, h1, h2, rfl | rfl⟩
    · show layD c A m dt (ix c k ((h : Int) + 1)) ≤ layD c A m dt (ix c k h) + rr c k
      have e : ((h : Int) + 1) = ((h + 1 : Nat) : Int) := rfl
      rw [e, dk h1 (by omega), dk h1 (by omega)]
      have hr := (rr_bd hc k).1
      by_cases hp : m k ≤ h
      · rw [Dd_up hp]; omega
      · have := Dd_down (r := rr c k) (p := m k) (h := h) (by omega); omega
    · show layD c A m dt (ix c k h) ≤ layD c A m dt (ix c k ((h : Int) + 1)) + rr c k
      have e : ((h : Int) + 1) = ((h + 1 : Nat) : Int) := rfl
      rw [e, dk h1 (by omega), dk h1 (by omega)]
      have hr := (rr_bd hc k).1
      by_cases hp : m k ≤ h
      · rw [Dd_up hp]; omega
      · have := Dd_down (r := rr c k) (p := m k) (h := h) (by omega); omega
    · have hh := hr_le hc i
      have e := L.c2 i h1
      simp only [said, List.mem_cons, List.not_mem_nil, or_false] at hb
      rcases hb with rfl | rfl
      · show layD c A m dt (ix c i (c.hr i)) ≤ layD c A m dt (ix c (-1) 0) + 0
        rw [dk h1 hh, dT]; omega
      · show layD c A m dt (ix c (-1) 0) ≤ layD c A m dt (ix c i (c.hr i)) + 0
        rw [dk h1 hh, dT]; omega
    · show layD c A m dt (ix c k h) ≤ layD c A m dt (ix c (-1) 0) + 100000
      rw [dk h1 h2, dT]; have := bd h1 h2; omega
    · show layD c A m dt (ix c (-1) 0) ≤ layD c A m dt (ix c k h) + 100000
      rw [dk h1 h2, dT]; have := bd h1 h2; omega
  · intro v hv
    rcases ix_all c hv with rfl | ⟨k, h, h1, h2, rfl⟩
    · rcases L.tt with ⟨h1, -⟩ | ⟨k, h1, h2⟩
      · left; rw [ix_t, h1]
      · right
        refine ⟨⟨-1, 0, k, c.hr k, 0⟩, allB_s hc h1 _ (by simp [said]), rfl, ?_, ?_⟩
        · show layD c A m dt (ix c (-1) 0) = layD c A m dt (ix c k (c.hr k)) + 0
          rw [dT, dk h1 (hr_le hc k), L.c2 k h1]; omega
        · show layR c m B rt (ix c k (c.hr k)) < layR c m B rt (ix c (-1) 0)
          rw [rT, rk h1 (hr_le hc k)]; exact h2
    · rcases Nat.lt_trichotomy h (m k) with hlt | heq | hgt
      · right
        have hm := L.hm k h1
        have e : ((h : Int) + 1) = ((h + 1 : Nat) : Int) := rfl
        refine ⟨⟨k, h, k, (h : Int) + 1, rr c k⟩, (allB_g c h1 (by omega)).2, rfl, ?_, ?_⟩
        · show layD c A m dt (ix c k h) = layD c A m dt (ix c k ((h : Int) + 1)) + rr c k
          rw [e, dk h1 h2, dk h1 (by omega), Dd_down hlt]; omega
        · show layR c m B rt (ix c k ((h : Int) + 1)) < layR c m B rt (ix c k h)
          rw [e, rk h1 (by omega), rk h1 h2]
          unfold ab; split <;> split <;> omega
      · rcases L.tc k h1 with ⟨h3, -⟩ | ⟨h3, h4⟩
        · left; rw [h3, heq]
        · right
          rw [heq, h3]
          refine ⟨⟨k, c.hr k, -1, 0, 0⟩, allB_s hc h1 _ (by simp [said]), rfl, ?_, ?_⟩
          · show layD c A m dt (ix c k (c.hr k)) = layD c A m dt (ix c (-1) 0) + 0
            rw [dT, dk h1 (hr_le hc k), L.c2 k h1]; omega
          · show layR c m B rt (ix c (-1) 0) < layR c m B rt (ix c k (c.hr k))
            rw [rT, rk h1 (hr_le hc k)]; omega
      · right
        obtain ⟨h', rfl⟩ : ∃ h', h = h' + 1 := ⟨h - 1, by omega⟩
        have e : ((h' + 1 : Nat) : Int) = (h' : Int) + 1 := rfl
        refine ⟨⟨k, (h' : Int) + 1, k, h', rr c k⟩, (allB_g c h1 (by omega)).1, rfl, ?_, ?_⟩
        · show layD c A m dt (ix c k ((h' + 1 : Nat) : Int)) = layD c A m dt (ix c k h') + rr c k
          rw [dk h1 h2, dk h1 (by omega), Dd_up (by omega)]; omega
        · show layR c m B rt (ix c k h') < layR c m B rt (ix c k ((h' + 1 : Nat) : Int))
          rw [rk h1 h2, rk h1 (by omega)]
          unfold ab; split <;> split <;> omega
  · intro v hv
    rcases ix_all c hv with rfl | ⟨k, h, h1, h2, rfl⟩
    · rw [rT]; exact L.rbt
    · rw [rk h1 h2]; exact L.rb k h h1 h2

/-- from true time -/
theorem lay_truth {c : Ce} (hc : c.ok) : Lay c (ix c (-1) 0) (fun _ => 0) (fun k => c.hr k) (fun _ => 1) 0 0 := by
  have hH := hc.H2
  refine ⟨fun k _ => hr_le hc k, fun _ _ => by omega, by omega, fun k _ => by rw [Dd_self]; rfl, .inl ⟨ix_t c, rfl⟩, fun k _ => .inr ⟨rfl, by omega⟩, .inl ⟨ix_t c, rfl⟩, by omega, fun k h hk hh => ?_⟩
  have := hr_le hc k
  unfold ab; split <;> omega
/-- from a clock at an hour -/
theorem lay_clock {c : Ce} (hc : c.ok) {σ q : Nat} (hσ : σ < 2) (hq : q ≤ c.H) : Lay c (ix c σ q) (fun k => if k = σ then 0 else Dd (rr c σ) q (c.hr σ)) (fun k => if k = σ then q else c.hr k) (fun k => if k = σ then 0 else ab q (c.hr σ) + 2) (Dd (rr c σ) q (c.hr σ)) (ab q (c.hr σ) + 1) := by
  have hH := hc.H2
  have hp := hr_le hc σ
  have hD := Dd_bd (rr_bd hc σ) (p := q) (h := c.hr σ) (by omega) (by omega)
  have hab : ab q (c.hr σ) ≤ c.H := by unfold ab; split <;> omega
  refine ⟨fun k hk => ?_, fun k hk => ?_, by omega, fun k hk => ?_, .inr ⟨σ, hσ, ?_⟩, fun k hk => ?_, .inr ⟨σ, hσ, ?_⟩, by omega, fun k h hk hh => ?_⟩
  · split
    · exact hq
    · exact hr_le hc k
  · split <;> omega
  · split
    · rename_i e; subst e; omega
    · rw [Dd_self]; omega
  · simp
  · by_cases e : k = σ
    · subst e; left; simp
    · right; simp [e]
  · simp
  · have := hr_le hc k
    by_cases e : k = σ
    · subst e; simp; unfold ab; split <;> omega
    · simp [e]
      -- the other clock
      have h1 : ab q (c.hr σ) ≤ c.H := hab
      have h2 : ab (c.hr k) h ≤ c.H := by unfold ab; split <;> omega
      omega
end Go.Vi.Tryd
