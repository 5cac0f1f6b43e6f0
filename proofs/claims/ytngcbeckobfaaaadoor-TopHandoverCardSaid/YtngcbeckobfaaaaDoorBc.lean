/- Beat's bounds: what rates, comparisons and the greatest offset let be. No statement of a claim stands here. -/
import Derived.Test.YtngcbeckobfaaaaDoorBb
set_option linter.unusedSimpArgs false
set_option linter.unusedVariables false
namespace Go.Vi.Tryd
open Go Go.Vi
attribute [local simp] reg pre guarded isCall ev again Env.put alook bindArgs Opd.val ar_add ar_sub ar_mul ar_quo ar_rem ar_eql ar_neq ar_lss ar_leq ar_gtr ar_geq Env.mask List.filterMap ressOf resOf pack V.clasp sealL V.top topL get_new get_set next_new next_set low_new low_set low_mk next_mk get_mk vals sub V.isAgg V.cells V.cell1 setRange bnd ival bval fillIn minmax Nat.ne_of_lt ne2 ne3 ne4 ne5 ne6 V.same sameL Nat.beq_refl

/-- a list that grows -/
def OutB (n0 : Nat) (bs : List Bd) (v : V) (h : H) : Prop :=
  (bs = [] ∧ v = .slice 0 [] .nil) ∨ ∃ id, v = .slice 5 (bs.map Bd.v) (.own id) ∧ h.get id = some (.tip 5 bs.length) ∧ n0 ≤ id ∧ id < h.next
/-- all but such lists is kept -/
structure Keep (n0 : Nat) (h h' : H) : Prop where
  next : h.next ≤ h'.next
  get : ∀ j, j < h.next → (∀ k u, h.get j ≠ some (.tip k u)) → h'.get j = h.get j
  below : ∀ j, j < n0 → h'.get j = h.get j
  low : ∀ B, B ≤ h.low → B ≤ n0 → B ≤ h'.low
theorem Keep.refl {n0 : Nat} {h : H} : Keep n0 h h := ⟨Nat.le_refl _, fun _ _ _ => rfl, fun _ _ => rfl, fun _ h _ => h⟩
theorem Keep.trans {n0 : Nat} {h h' h'' : H} (a : Keep n0 h h') (b : Keep n0 h' h'') : Keep n0 h h'' :=
  ⟨Nat.le_trans a.next b.next, fun j h1 h2 => by
    have := a.get j h1 h2
    rw [b.get j (Nat.lt_of_lt_of_le h1 a.next) (by rw [this]; exact h2), this], fun j hj => (b.below j hj).trans (a.below j hj), fun B h1 h2 => b.low B (a.low B h1 h2) h2⟩
theorem _root_.Go.Vi.Eff.keep {n0 : Nat} {h h' : H} (a : Eff h h') (hn : n0 ≤ h.next) : Keep n0 h h' := ⟨a.next, fun j h1 _ => a.get j h1, fun j hj => a.get j (by omega), fun B h1 h2 => a.low B h1 (by omega)⟩
theorem Keep.cells {n0 : Nat} {h h' : H} (a : Keep n0 h h') {j : Nat} {cs : List V} (hj : j < h.next) (hg : h.get j = some (.cells cs)) : h'.get j = some (.cells cs) :=
  (a.get j hj (fun k u e => by rw [hg] at e; cases e)).trans hg
theorem OutB.eff {n0 : Nat} {bs : List Bd} {v : V} {h h' : H} (a : OutB n0 bs v h) (e : Eff h h') : OutB n0 bs v h' := by
  rcases a with a | ⟨id, a1, a2, a3, a4⟩
  · exact .inl a
  · exact .inr ⟨id, a1, (e.get _ a4).trans a2, a3, Nat.lt_of_lt_of_le a4 e.next⟩

theorem wo_appB {all os : List VO} {e : Env} {h : H} {K : Env → H → Prop} {d : Option Nat} {x y : Opd} {n0 : Nat} {bs ys : List Bd} {out : V} {tt : Tip} (hr : OutB n0 bs out h) (hx : x.val globs e = some out) (hy : y.val globs e = some (.slice 5 (ys.map Bd.v) tt)) (hne : ys ≠ []) (hl : bs.length + ys.length ≤ 1000) (hn : n0 ≤ h.next)
    (hk : ∀ v' h', OutB n0 (bs ++ ys) v' h' → Keep n0 h h' → WO globs prog all os (e.put d v') h' K) : WO globs prog all (⟨d, none, .append 5 x y, []⟩ :: os) e h K := by
  obtain ⟨y0, ys', rfl⟩ : ∃ y0 ys', ys = y0 :: ys' := by
    cases ys with
    | nil => exact absurd rfl hne
    | cons a b => exact ⟨a, b, rfl⟩
  rcases hr with ⟨rfl, rfl⟩ | ⟨id, rfl, r2, r3, r4⟩
  · have lm : (ys'.length + 1 : Nat) ≤ lim := by simp at hl; simp [lim]; omega
    obtain ⟨e', h', ⟨n, hn'⟩, hK⟩ := hk (.slice 5 ((y0 :: ys').map Bd.v) (.own h.next)) (h.new (.tip 5 (ys'.length + 1))) (.inr ⟨h.next, rfl, by simp, hn, by simp⟩) (Eff.new.keep hn)
    exact ⟨e', h', .step rfl (by simp only [ev, hx, hy]; simp [lm]) rfl ⟨n, hn'⟩, hK⟩
  · have lm : bs.length + (ys'.length + 1) ≤ lim := by simp at hl; simp [lim]; omega
    obtain ⟨e', h', ⟨n, hn'⟩, hK⟩ := hk (.slice 5 ((bs ++ y0 :: ys').map Bd.v) (.own id)) (h.set id (.tip 5 (bs.length + (ys'.length + 1)))) (.inr ⟨id, rfl, by simp [r2], r3, r4⟩)
      ⟨Nat.le_refl _, fun j h1 h2 => by rw [get_set, if_neg]; rintro rfl; exact h2 _ _ r2, fun j hj => by rw [get_set, if_neg (by omega)], fun B h1 h2 => by simp; omega⟩
    exact ⟨e', h', .step rfl (by simp only [ev, hx, hy]; simp [lm, r2]) rfl ⟨n, hn'⟩, hK⟩

theorem topL_B : ∀ (bs : List Bd), topL (bs.map Bd.v) = 0
  | [] => rfl
  | b :: bs => by
    show Nat.max _ (topL (bs.map Bd.v)) = 0
    rw [topL_B bs]; rfl
theorem OutB.out {n0 : Nat} {bs : List Bd} {v : V} {h : H} (a : OutB n0 bs v h) (hb : bs ≠ []) : v.clasp = .slice 5 (bs.map Bd.v) .any ∧ v.clasp.top = 0 := by
  rcases a with ⟨a, _⟩ | ⟨id, rfl, _⟩
  · exact absurd a hb
  · refine ⟨rfl, ?_⟩
    show Nat.max (topL (bs.map Bd.v)) 0 = 0
    rw [topL_B]; rfl

/-- rates -/
def gk (k : Nat) (r : Int) : Nat → List Bd
  | 0 => []
  | n + 1 => gk k r n ++ [⟨k, (n : Int) + 1, k, n, r⟩, ⟨k, n, k, (n : Int) + 1, r⟩]
theorem gk_len (k : Nat) (r : Int) : ∀ n, (gk k r n).length = 2 * n
  | 0 => rfl
  | n + 1 => by simp [gk, gk_len k r n]; omega
def gEnv (c : Ce) (p1 p5 k hh : Nat) (out : V) : Env := [(1, .ptr p1 0), (3, out), (4, .int .i64 k), (5, .ptr p5 0), (13, c.rates), (14, .int .i64 2), (15, .int .i64 k), (22, .int .i64 c.H), (23, .int .i64 hh)]
theorem grows_inner (c : Ce) (P p1 p5 k n0 : Nat) (r : Int) (pre_ : List Bd) (hH : c.H ≤ 12) (hr : 0 ≤ r ∧ r ≤ 100) (hpre : pre_.length ≤ 100) : ∀ (kk hh : Nat) (h : H) (out : V), hh + kk = c.H → OutB n0 (pre_ ++ gk k r hh) out h → n0 ≤ h.next → p1 < h.next → p5 < h.next → h.get p1 = some (.cells (c.cs6 P)) → h.get p5 = some (.cells [.int .i64 (-r), .int .i64 r]) →
    WP globs prog none c171_l1 (gEnv c p1 p5 k hh out) h fun x e' h' => x = .exit 2 ∧ ∃ out', (∀ j ∈ ([1, 3, 13, 14, 15] : List Nat), alook j e' = alook j (gEnv c p1 p5 k hh out')) ∧ OutB n0 (pre_ ++ gk k r c.H) out' h' ∧ Keep n0 h h'
  | 0, hh, h, out, hi, ho, hn, l1, l5, g1, g5 => by
    have : hh = c.H := by omega
    subst this
    refine wp_loop (wp_seq (wp_r (by simp [gEnv]; rfl) ?_))
    refine wp_seq (wp_condF rfl (wp_exit ?_))
    exact ⟨rfl, out, by simp [gEnv], ho, Keep.refl⟩
  | kk + 1, hh, h, out, hi, ho, hn, l1, l5, g1, g5 => by
    have hlt : hh < c.H := by omega
    have w1 : IntKind.wrap .i64 (hh + 1 : Int) = (hh : Int) + 1 := by rw [wrap64] <;> omega
    have w1' : IntKind.wrap .i64 (hh + 1 : Int) = ((hh + 1 : Nat) : Int) := by rw [wrap64] <;> omega
    refine wp_loop (wp_seq (wp_r (by simp [gEnv, hlt]; rfl) ?_))
    refine wp_seq (wp_condT rfl (wp_skip ?_))
    refine wp_seq (wp_block (wp_seq (wp_r (by simp; rfl) ?_)))
    refine wp_seq (wp_r (by simp; rfl) ?_)
    refine wp_seq (wp_seq (wp_r (by simp [g1, Ce.cs6]; rfl) ?_))
    refine wp_block (wp_loop (wp_seq (wp_r (by simp; rfl) ?_)))
    refine wp_seq (wp_condF rfl (wp_exit ?_))
    refine wp_rc ?_
    refine wo_p (by simp [w1, g5]; rfl) ?_
    refine wo_fn (sum_run (-r) .shut _) (by simp) (by simp) (by simp) ?_
    refine wo_p (by simp [g5]; rfl) ?_
    refine wo_fn (sum_run r .shut _) (by simp) (by simp) (by simp) ?_
    refine wo_p (by simp; rfl) ?_
    refine wo_fn (both_run k ((hh : Int) + 1) k hh (-r) r _ (by omega)) (by simp) (by simp [spot]) (by simp) ?_
    have hlen := gk_len k r hh
    refine wo_appB (tt := .shut) (ys := [⟨k, (hh : Int) + 1, k, hh, r⟩, ⟨k, hh, k, (hh : Int) + 1, - -r⟩]) ho (by simp) (by simp) (by simp) (by simp [hlen]; omega) hn ?_
    intro out' h' ho' hk'
    refine wo_p (by simp; rfl) ?_
    refine wo_m (by simp; rfl) ?_
    refine wp_r (by simp [w1', -Int.natCast_add]; rfl) ?_
    have nk := hk'.next
    rw [Int.neg_neg, List.append_assoc] at ho'
    refine (grows_inner c P p1 p5 k n0 r pre_ hH hr hpre kk (hh + 1) h' out' (by omega) ho' (by omega) (by omega) (by omega) (hk'.cells l1 g1) (hk'.cells l5 g5)).mono ?_
    rintro x e' h'' ⟨r0, out2, r1, r2, r3⟩
    exact ⟨r0, out2, fun j hj => by rw [r1 j hj]; simp at hj; rcases hj with rfl | rfl | rfl | rfl | rfl <;> simp [gEnv], r2, hk'.trans r3⟩
def growsF (c : Ce) : List Bd := gk 0 c.r0 c.H ++ gk 1 c.r1 c.H
theorem grows_run (c : Ce) (P : Nat) (h : H) (hc : c.ok) : WC globs prog 171 [c.v6 P] h fun v h' p => v = .slice 5 ((growsF c).map Bd.v) .any ∧ h' = h ∧ p = true := by
  obtain ⟨q1, q2, q3, q4, q5, q6, q7, q8⟩ := hc
  have w1 : IntKind.wrap .i64 1 = 1 := rfl
  have w2 : IntKind.wrap .i64 2 = 2 := rfl
  refine wc_pure (fn := c171) rfl rfl ?_
  refine wp_seq (wp_r (by simp [Ce.v6, Ce.cs6]; rfl) ?_)
  refine wp_seq (wp_r (by simp; rfl) ?_)
  refine wp_seq (wp_seq (wp_r (by simp [Ce.rates]; rfl) ?_))
  have g1 : (({ h with low := h.next } : H).new (.cells (c.cs6 P))).get h.next = some (.cells (c.cs6 P)) := by simp
  have n1 : (({ h with low := h.next } : H).new (.cells (c.cs6 P))).next = h.next + 1 := rfl
  have lw : (({ h with low := h.next } : H).new (.cells (c.cs6 P))).low = h.next := rfl
  show WP globs prog none _ _ (({ h with low := h.next } : H).new (.cells (c.cs6 P))) _
  generalize ({ h with low := h.next } : H).new (.cells (c.cs6 P)) = hA at *
  refine wp_block (wp_loop (wp_seq (wp_r (by simp; rfl) ?_)))
  refine wp_seq (wp_condT rfl (wp_skip ?_))
  refine wp_seq (wp_block (wp_seq (wp_r (by simp; rfl) ?_)))
  have eA : Eff hA ((hA.new (.cells [.int .i64 0, .int .i64 0])).set hA.next (.cells [.int .i64 (-c.r0), .int .i64 c.r0])) := Eff.set Eff.new (Nat.le_refl _)
  have x5 : ((hA.new (.cells [.int .i64 0, .int .i64 0])).set hA.next (.cells [.int .i64 (-c.r0), .int .i64 c.r0])).get hA.next = some (.cells [.int .i64 (-c.r0), .int .i64 c.r0]) := by simp
  have nA : ((hA.new (.cells [.int .i64 0, .int .i64 0])).set hA.next (.cells [.int .i64 (-c.r0), .int .i64 c.r0])).next = hA.next + 1 := rfl
  generalize (hA.new (.cells [.int .i64 0, .int .i64 0])).set hA.next (.cells [.int .i64 (-c.r0), .int .i64 c.r0]) = hB at *
  have gB := (eA.get _ (by omega)).trans g1
  refine wp_seq (wp_r (by simp [gB, Ce.cs6]; rfl) ?_)
  refine wp_block ((grows_inner c P h.next hA.next 0 h.next c.r0 [] q2 ⟨q3, q4⟩ (by simp) c.H 0 hB (.slice 0 [] .nil) (by omega) (.inl ⟨rfl, rfl⟩) (by omega) (by omega) (by omega) gB x5).mono ?_)
  rintro x e1 hC ⟨rfl, out1, j1, o1, k1⟩
  have a1 := j1 1 (by simp); have a3 := j1 3 (by simp); have a13 := j1 13 (by simp); have a14 := j1 14 (by simp); have a15 := j1 15 (by simp)
  simp only [gEnv] at a1 a3 a13 a14 a15
  refine wp_r (by simp [a1, a3, a13, a14, a15, w1]; rfl) ?_
  refine wp_loop (wp_seq (wp_r (by simp; rfl) ?_))
  refine wp_seq (wp_condT rfl (wp_skip ?_))
  refine wp_seq (wp_block (wp_seq (wp_r (by simp [Ce.rates]; rfl) ?_)))
  have gC := k1.cells (by omega) gB
  have nC := k1.next
  have eC : Eff hC ((hC.new (.cells [.int .i64 0, .int .i64 0])).set hC.next (.cells [.int .i64 (-c.r1), .int .i64 c.r1])) := Eff.set Eff.new (Nat.le_refl _)
  have y5 : ((hC.new (.cells [.int .i64 0, .int .i64 0])).set hC.next (.cells [.int .i64 (-c.r1), .int .i64 c.r1])).get hC.next = some (.cells [.int .i64 (-c.r1), .int .i64 c.r1]) := by simp
  have nD : ((hC.new (.cells [.int .i64 0, .int .i64 0])).set hC.next (.cells [.int .i64 (-c.r1), .int .i64 c.r1])).next = hC.next + 1 := rfl
  generalize (hC.new (.cells [.int .i64 0, .int .i64 0])).set hC.next (.cells [.int .i64 (-c.r1), .int .i64 c.r1]) = hD at *
  have gD := (eC.get _ (by omega)).trans gC
  refine wp_seq (wp_r (by simp [gD, Ce.cs6]; rfl) ?_)
  refine wp_block ((grows_inner c P h.next hC.next 1 h.next c.r1 (gk 0 c.r0 c.H) q2 ⟨q5, q6⟩ (by rw [gk_len]; omega) c.H 0 hD out1 (by omega) (by simpa [gk] using o1.eff eC) (by omega) (by omega) (by omega) gD y5).mono ?_)
  rintro x e2 hE ⟨rfl, out2, j2, o2, k2⟩
  have b1 := j2 1 (by simp); have b3 := j2 3 (by simp); have b13 := j2 13 (by simp); have b14 := j2 14 (by simp); have b15 := j2 15 (by simp)
  simp only [gEnv] at b1 b3 b13 b14 b15
  refine wp_r (by simp [b1, b3, b13, b14, b15, w2]; rfl) ?_
  refine wp_loop (wp_seq (wp_r (by simp; rfl) ?_))
  refine wp_seq (wp_condF rfl (wp_exit ?_))
  refine wp_seq (wp_r (by simp; rfl) ?_)
  refine wp_ret ?_
  obtain ⟨f1, f2⟩ := o2.out (by intro e; have := congrArg List.length e; simp [gk_len] at this; omega)
  refine ⟨.inr rfl, [out2], rfl, ?_, ?_, f1, rfl, rfl⟩
  · show out2.clasp.top ≤ h.next
    rw [f2]; omega
  · have c1 := eA.low h.next (by omega) (by omega)
    have c2 := k1.low h.next c1 (Nat.le_refl _)
    have c3 := eC.low h.next c2 (by omega)
    exact k2.low h.next c3 (Nat.le_refl _)
end Go.Vi.Tryd
