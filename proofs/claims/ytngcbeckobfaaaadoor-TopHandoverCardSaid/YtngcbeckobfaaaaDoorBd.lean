/- Beat's bounds: the greatest offset. No statement of a claim stands here. -/
import Derived.Test.YtngcbeckobfaaaaDoorBc
set_option linter.unusedSimpArgs false
set_option linter.unusedVariables false
namespace Go.Vi.Tryd
open Go Go.Vi
attribute [local simp] reg pre guarded isCall ev again Env.put alook bindArgs Opd.val ar_add ar_sub ar_mul ar_quo ar_rem ar_eql ar_neq ar_lss ar_leq ar_gtr ar_geq Env.mask List.filterMap ressOf resOf pack V.clasp sealL V.top topL get_new get_set next_new next_set low_new low_set low_mk next_mk get_mk vals sub V.isAgg V.cells V.cell1 setRange bnd ival bval fillIn minmax Nat.ne_of_lt ne2 ne3 ne4 ne5 ne6 V.same sameL Nat.beq_refl

def hk (k : Nat) : Nat → List Bd
  | 0 => []
  | n + 1 => hk k n ++ [⟨k, n, -1, 0, 100000⟩, ⟨-1, 0, k, n, 100000⟩]
theorem hk_len (k : Nat) : ∀ n, (hk k n).length = 2 * n
  | 0 => rfl
  | n + 1 => by simp [hk, hk_len k n]; omega
def hEnv (c : Ce) (p1 k hh : Nat) (out : V) : Env := [(1, .ptr p1 0), (3, out), (4, .int .i64 k), (9, .int .i64 2), (10, .int .i64 k), (16, .int .i64 ((c.H : Int) + 1)), (17, .int .i64 hh)]
theorem holds_inner (c : Ce) (P p1 k n0 : Nat) (pre_ : List Bd) (hH : c.H ≤ 12) (hpre : pre_.length ≤ 100) : ∀ (kk hh : Nat) (h : H) (out : V), hh + kk = c.H + 1 → OutB n0 (pre_ ++ hk k hh) out h → n0 ≤ h.next →
    WP globs prog none c173_l1 (hEnv c p1 k hh out) h fun x e' h' => x = .exit 2 ∧ ∃ out', (∀ j ∈ ([1, 3, 9, 10] : List Nat), alook j e' = alook j (hEnv c p1 k hh out')) ∧ OutB n0 (pre_ ++ hk k (c.H + 1)) out' h' ∧ Keep n0 h h'
  | 0, hh, h, out, hi, ho, hn => by
    have : hh = c.H + 1 := by omega
    subst this
    refine wp_loop (wp_seq (wp_r (by simp [hEnv]; rfl) ?_))
    refine wp_seq (wp_condF rfl (wp_exit ?_))
    exact ⟨rfl, out, by simp [hEnv], ho, Keep.refl⟩
  | kk + 1, hh, h, out, hi, ho, hn => by
    have hlt : (hh : Int) < (c.H : Int) + 1 := by omega
    have w1' : IntKind.wrap .i64 (hh + 1 : Int) = ((hh + 1 : Nat) : Int) := by rw [wrap64] <;> omega
    refine wp_loop (wp_seq (wp_r (by simp [hEnv, hlt]; rfl) ?_))
    refine wp_seq (wp_condT rfl (wp_skip ?_))
    refine wp_seq (wp_block (wp_seq (wp_r (by simp; rfl) ?_)))
    refine wp_rc ?_
    refine wo_p (by simp; rfl) ?_
    refine wo_fn (truth_run _) (by simp) (by simp) (by simp) ?_
    refine wo_p (by simp; rfl) ?_
    refine wo_fn (both_run k hh (-1) 0 (-100000) 100000 _ (by omega)) (by simp) (by simp [spot]) (by simp) ?_
    have hlen := hk_len k hh
    refine wo_appB (tt := .shut) (ys := [⟨k, hh, -1, 0, 100000⟩, ⟨-1, 0, k, hh, - -100000⟩]) ho (by simp) (by simp) (by simp) (by simp [hlen]; omega) hn ?_
    intro out' h' ho' hk'
    refine wo_p (by simp; rfl) ?_
    refine wo_m (by simp; rfl) ?_
    refine wp_r (by simp [w1', -Int.natCast_add]; rfl) ?_
    have nk := hk'.next
    rw [Int.neg_neg, List.append_assoc] at ho'
    refine (holds_inner c P p1 k n0 pre_ hH hpre kk (hh + 1) h' out' (by omega) ho' (by omega)).mono ?_
    rintro x e' h'' ⟨r0, out2, r1, r2, r3⟩
    exact ⟨r0, out2, fun j hj => by rw [r1 j hj]; simp at hj; rcases hj with rfl | rfl | rfl | rfl <;> simp [hEnv], r2, hk'.trans r3⟩
def holdsF (c : Ce) : List Bd := hk 0 (c.H + 1) ++ hk 1 (c.H + 1)
theorem holds_run (c : Ce) (P : Nat) (h : H) (hc : c.ok) : WC globs prog 173 [c.v6 P] h fun v h' p => v = .slice 5 ((holdsF c).map Bd.v) .any ∧ h' = h ∧ p = true := by
  obtain ⟨q1, q2, q3, q4, q5, q6, q7, q8⟩ := hc
  have w1 : IntKind.wrap .i64 1 = 1 := rfl
  have w2 : IntKind.wrap .i64 2 = 2 := rfl
  have w0 : IntKind.wrap .i64 ((c.H : Int) + 1) = (c.H : Int) + 1 := by rw [wrap64] <;> omega
  refine wc_pure (fn := c173) rfl rfl ?_
  refine wp_seq (wp_r (by simp [Ce.v6, Ce.cs6]; rfl) ?_)
  refine wp_seq (wp_r (by simp; rfl) ?_)
  refine wp_seq (wp_seq (wp_r (by simp [Ce.rates]; rfl) ?_))
  have g1 : (({ h with low := h.next } : H).new (.cells (c.cs6 P))).get h.next = some (.cells (c.cs6 P)) := by simp
  have n1 : (({ h with low := h.next } : H).new (.cells (c.cs6 P))).next = h.next + 1 := rfl
  have lw : (({ h with low := h.next } : H).new (.cells (c.cs6 P))).low = h.next := rfl
  show WP globs prog none _ _ (({ h with low := h.next } : H).new (.cells (c.cs6 P))) _
  generalize ({ h with low := h.next } : H).new (.cells (c.cs6 P)) = hA at *
  refine wp_block (wp_loop (wp_seq (wp_r (by simp; rfl) ?_)))
  refine wp_seq (wp_condT rfl (wp_skip ?_))
  refine wp_seq (wp_block (wp_seq (wp_r (by simp; rfl) ?_)))
  refine wp_seq (wp_r (by simp [g1, Ce.cs6, w0]; rfl) ?_)
  refine wp_block ((holds_inner c P h.next 0 h.next [] q2 (by simp) (c.H + 1) 0 hA (.slice 0 [] .nil) (by omega) (.inl ⟨rfl, rfl⟩) (by omega)).mono ?_)
  rintro x e1 hC ⟨rfl, out1, j1, o1, k1⟩
  have a1 := j1 1 (by simp); have a3 := j1 3 (by simp); have a9 := j1 9 (by simp); have a10 := j1 10 (by simp)
  simp only [hEnv] at a1 a3 a9 a10
  refine wp_r (by simp [a1, a3, a9, a10, w1]; rfl) ?_
  have gC := k1.cells (by omega) g1
  have nC := k1.next
  refine wp_loop (wp_seq (wp_r (by simp; rfl) ?_))
  refine wp_seq (wp_condT rfl (wp_skip ?_))
  refine wp_seq (wp_block (wp_seq (wp_r (by simp; rfl) ?_)))
  refine wp_seq (wp_r (by simp [gC, Ce.cs6, w0]; rfl) ?_)
  refine wp_block ((holds_inner c P h.next 1 h.next (hk 0 (c.H + 1)) q2 (by rw [hk_len]; omega) (c.H + 1) 0 hC out1 (by omega) (by simpa [hk] using o1) (by omega)).mono ?_)
  rintro x e2 hE ⟨rfl, out2, j2, o2, k2⟩
  have b1 := j2 1 (by simp); have b3 := j2 3 (by simp); have b9 := j2 9 (by simp); have b10 := j2 10 (by simp)
  simp only [hEnv] at b1 b3 b9 b10
  refine wp_r (by simp [b1, b3, b9, b10, w2]; rfl) ?_
  refine wp_loop (wp_seq (wp_r (by simp; rfl) ?_))
  refine wp_seq (wp_condF rfl (wp_exit ?_))
  refine wp_seq (wp_r (by simp; rfl) ?_)
  refine wp_ret ?_
  obtain ⟨f1, f2⟩ := o2.out (by intro e; have := congrArg List.length e; simp [hk_len] at this)
  refine ⟨.inr rfl, [out2], rfl, ?_, ?_, f1, rfl, rfl⟩
  · show out2.clasp.top ≤ h.next
    rw [f2]; omega
  · exact k2.low h.next (k1.low h.next (by omega) (Nat.le_refl _)) (Nat.le_refl _)
end Go.Vi.Tryd
