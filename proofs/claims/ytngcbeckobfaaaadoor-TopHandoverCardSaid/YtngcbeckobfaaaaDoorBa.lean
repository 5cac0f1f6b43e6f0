/- Beat's small functions and its check, at cellars of two clocks, each compared with true time once. No statement of a claim stands here. -/
import Derived.Test.YtngcbeckobfaaaaDoorVw
import Derived.Test.YtngcbeckobfaaaaDoorVc
set_option linter.unusedSimpArgs false
set_option linter.unusedVariables false
namespace Go.Vi.Tryd
open Go Go.Vi
attribute [local simp] reg pre guarded isCall ev again Env.put alook bindArgs Opd.val ar_add ar_sub ar_mul ar_quo ar_rem ar_eql ar_neq ar_lss ar_leq ar_gtr ar_geq Env.mask List.filterMap ressOf resOf pack V.clasp sealL V.top topL get_new get_set next_new next_set low_new low_set low_mk next_mk get_mk vals sub V.isAgg V.cells V.cell1 setRange bnd ival bval fillIn minmax Nat.ne_of_lt ne2 ne3 ne4 ne5 ne6 V.same sameL Nat.beq_refl

/-- the cellar -/
structure Ce where
  (H : Nat) (r0 r1 : Int) (h0 h1 : Nat)
structure Ce.ok (c : Ce) : Prop where
  H1 : 1 ≤ c.H
  H2 : c.H ≤ 12
  a0 : 0 ≤ c.r0
  a1 : c.r0 ≤ 100
  b0 : 0 ≤ c.r1
  b1 : c.r1 ≤ 100
  h0 : c.h0 ≤ c.H
  h1 : c.h1 ≤ c.H
def Ce.rates (c : Ce) : V := .slice 2 [.agg [.int .i64 (-c.r0), .int .i64 c.r0], .agg [.int .i64 (-c.r1), .int .i64 c.r1]] .shut
def Ce.pairs (c : Ce) : V := .slice 5 [.agg [.int .i64 c.h0, .int .i64 0, .int .i64 (-1), .int .i64 0, .int .i64 0], .agg [.int .i64 c.h1, .int .i64 1, .int .i64 (-1), .int .i64 0, .int .i64 0]] .shut
def Ce.cs (c : Ce) : List V := [.int .i64 c.H, c.rates, .slice 0 [] .nil, c.pairs]
def Ce.v (c : Ce) : V := .agg c.cs
/-- .. in the calculation -/
def Ce.cs6 (c : Ce) (P : Nat) : List V := [.int .i64 c.H, c.rates, .slice 0 [] .nil, c.pairs, .int .i64 0, .map P]
def Ce.v6 (c : Ce) (P : Nat) : V := .agg (c.cs6 P)
def spot (a b : Int) : V := .agg [.int .i64 a, .int .i64 b]
structure Bd where
  (oc oh vc vh by_ : Int)
def Bd.v (b : Bd) : V := .agg [.int .i64 b.oc, .int .i64 b.oh, .int .i64 b.vc, .int .i64 b.vh, .int .i64 b.by_]

theorem blies_run (n a b : Int) (h : H) : WC globs prog 79 [.int .i64 n, .int .i64 a, .int .i64 b] h fun v h' p => v = .bool (decide (a ≤ n ∧ n ≤ b)) ∧ h' = h ∧ p = true := by
  refine wc_pure (fn := c79) rfl rfl ?_
  refine wp_seq (wp_r (by simp; rfl) ?_)
  by_cases h1 : a ≤ n
  · refine wp_seq (wp_r (by simp [h1]; rfl) ?_)
    refine wp_ret ?_
    simp [h1, c79]
  · refine wp_seq (wp_r (by simp [h1]; rfl) ?_)
    refine wp_ret ?_
    simp [h1, c79]
theorem isSpan_run (a b m : Int) (h : H) (hm : 0 ≤ m ∧ m ≤ 1000000) (h1 : -m ≤ a) (h2 : a ≤ b) (h3 : b ≤ m) : WC globs prog 111 [.agg [.int .i64 a, .int .i64 b], .int .i64 m] h fun v h' p => v = .bool true ∧ h' = h ∧ p = true := by
  refine wc_pure (fn := c111) rfl rfl ?_
  refine wp_seq (wp_r (by simp; rfl) ?_)
  have w : IntKind.wrap .i64 (-m) = -m := by rw [wrap64] <;> omega
  refine wp_seq (wp_r (by simp [w, h1, h2, h3]; rfl) ?_)
  refine wp_ret ?_
  simp [c111]
theorem truth_run (h : H) : WC globs prog 72 [] h fun v h' p => v = spot (-1) 0 ∧ h' = h ∧ p = true := by
  refine wc_pure (fn := c72) rfl rfl ?_
  refine wp_seq (wp_r (by simp; rfl) ?_)
  refine wp_seq (wp_r (by simp; rfl) ?_)
  refine wp_ret ?_
  simp [c72, spot]
theorem both_run (a b c d lo hi : Int) (h : H) (hl : -1000000 ≤ lo ∧ lo ≤ 1000000) : WC globs prog 174 [spot a b, spot c d, .agg [.int .i64 lo, .int .i64 hi]] h fun v h' p => v = .slice 5 [Bd.v ⟨a, b, c, d, hi⟩, Bd.v ⟨c, d, a, b, -lo⟩] .shut ∧ h' = h ∧ p = true := by
  refine wc_pure (fn := c174) rfl rfl ?_
  refine wp_seq (wp_r (by simp [spot]; rfl) ?_)
  have w : IntKind.wrap .i64 (-lo) = -lo := by rw [wrap64] <;> omega
  refine wp_seq (wp_r (by simp [w]; rfl) ?_)
  refine wp_ret ?_
  simp [c174, Bd.v]
theorem sum_run (a : Int) (t : Tip) (h : H) : WC globs prog 175 [.int .i64 a, .slice 1 [] t] h fun v h' p => v = .int .i64 a ∧ h' = h ∧ p = true := by
  refine wc_pure (fn := c175) rfl rfl ?_
  refine wp_seq (wp_r (by simp; rfl) ?_)
  refine wp_seq (wp_seq (wp_r (by simp; rfl) ?_))
  refine wp_block (wp_loop (wp_seq (wp_r (by simp; rfl) ?_)))
  refine wp_seq (wp_condF rfl (wp_exit ?_))
  refine wp_seq (wp_r (by simp; rfl) ?_)
  refine wp_ret ?_
  simp [c175]
theorem isSpot_run (c : Ce) (k hh : Nat) (h : H) (hk : k < 2) (hH : hh ≤ c.H) : WC globs prog 42 [c.v, .int .i64 k, .int .i64 hh] h fun v h' p => v = .bool true ∧ h' = h ∧ p = true := by
  refine wc_pure (fn := c42) rfl rfl ?_
  refine wp_seq (wp_r (by simp [Ce.v, Ce.cs, Ce.rates]; rfl) ?_)
  have w : IntKind.wrap .i64 1 = 1 := rfl
  refine wp_seq (wp_rc ?_)
  refine wo_p (by simp [w, Ce.rates]; rfl) ?_
  refine wo_fn (blies_run k 0 1 _) (by simp) (by simp) (by simp) ?_
  have c1 : (k : Int) ≤ 1 := by omega
  refine wo_p (by simp [c1]; rfl) ?_
  refine wo_fn (blies_run hh 0 c.H _) (by simp) (by simp) (by simp) ?_
  refine wo_p (by simp [hH]; rfl) ?_
  refine wo_m (by simp; rfl) ?_
  refine wp_ret ?_
  simp [c42]

theorem bcheck_run (c : Ce) (h : H) (hc : c.ok) : WC globs prog 76 [c.v] h fun v h' p => v = .int .i64 0 ∧ h' = h ∧ p = true := by
  obtain ⟨q1, q2, q3, q4, q5, q6, q7, q8⟩ := hc
  have w1 : IntKind.wrap .i64 1 = 1 := rfl
  have w2 : IntKind.wrap .i64 2 = 2 := rfl
  refine wc_pure (fn := c76) rfl rfl ?_
  refine wp_seq (wp_r (by simp [Ce.v, Ce.cs]; rfl) ?_)
  refine wp_seq (wp_rc ?_)
  refine wo_p (by simp; rfl) ?_
  refine wo_fn (blies_run c.H 1 12 _) (by simp) (by simp) (by simp) ?_
  have c1 : (1 : Int) ≤ c.H ∧ (c.H : Int) ≤ 12 := by omega
  refine wo_p (by simp [c1, Ce.rates]; rfl) ?_
  refine wo_fn (blies_run 2 1 5 _) (by simp) (by simp) (by simp) ?_
  refine wo_p (by simp [Ce.pairs]; rfl) ?_
  refine wo_m (by simp; rfl) ?_
  -- the rates
  refine wp_seq (wp_seq (wp_r (by simp [Ce.rates]; rfl) ?_))
  refine wp_block (wp_loop (wp_seq (wp_r (by simp; rfl) ?_)))
  refine wp_seq (wp_condT rfl (wp_skip ?_))
  refine wp_seq (wp_block (wp_seq (wp_r (by simp; rfl) ?_)))
  refine wp_rc ?_
  refine wo_p (by simp; rfl) ?_
  refine wo_fn (isSpan_run (-c.r0) c.r0 1000 _ (by omega) (by omega) (by omega) (by omega)) (by simp) (by simp) (by simp) ?_
  refine wo_p (by simp; rfl) ?_
  refine wo_m (by simp; rfl) ?_
  refine wp_r (by simp [w1]; rfl) ?_
  refine wp_loop (wp_seq (wp_r (by simp; rfl) ?_))
  refine wp_seq (wp_condT rfl (wp_skip ?_))
  refine wp_seq (wp_block (wp_seq (wp_r (by simp; rfl) ?_)))
  refine wp_rc ?_
  refine wo_p (by simp; rfl) ?_
  refine wo_fn (isSpan_run (-c.r1) c.r1 1000 _ (by omega) (by omega) (by omega) (by omega)) (by simp) (by simp) (by simp) ?_
  refine wo_p (by simp; rfl) ?_
  refine wo_m (by simp; rfl) ?_
  refine wp_r (by simp [w2]; rfl) ?_
  refine wp_loop (wp_seq (wp_r (by simp; rfl) ?_))
  refine wp_seq (wp_condF rfl (wp_exit ?_))
  -- no openings
  refine wp_seq (wp_seq (wp_r (by simp; rfl) ?_))
  refine wp_block (wp_loop (wp_seq (wp_r (by simp; rfl) ?_)))
  refine wp_seq (wp_condF rfl (wp_exit ?_))
  -- the comparisons
  refine wp_seq (wp_seq (wp_r (by simp [Ce.pairs]; rfl) ?_))
  refine wp_block (wp_loop (wp_seq (wp_r (by simp; rfl) ?_)))
  refine wp_seq (wp_condT rfl (wp_skip ?_))
  refine wp_seq (wp_block (wp_seq (wp_r (by simp; rfl) ?_)))
  refine wp_rc ?_
  refine wo_p (by simp; rfl) ?_
  refine wo_fn (blies_run c.h0 0 c.H _) (by simp) (by simp) (by simp) ?_
  have d0 : (c.h0 : Int) ≤ c.H := by omega
  refine wo_p (by simp [q7, w1, Ce.rates]; rfl) ?_
  refine wo_fn (blies_run 0 0 1 _) (by simp) (by simp) (by simp) ?_
  refine wo_p (by simp [w1, Ce.rates]; rfl) ?_
  refine wo_fn (blies_run (-1) (-1) 1 _) (by simp) (by simp) (by simp) ?_
  refine wo_p (by simp; rfl) ?_
  refine wo_fn (isSpan_run 0 0 200000 _ (by omega) (by omega) (by omega) (by omega)) (by simp) (by simp) (by simp) ?_
  refine wo_p (by simp; rfl) ?_
  refine wo_m (by simp; rfl) ?_
  refine wp_r (by simp [w1, w2]; rfl) ?_
  refine wp_loop (wp_seq (wp_r (by simp; rfl) ?_))
  refine wp_seq (wp_condT rfl (wp_skip ?_))
  refine wp_seq (wp_block (wp_seq (wp_r (by simp; rfl) ?_)))
  refine wp_rc ?_
  refine wo_p (by simp; rfl) ?_
  refine wo_fn (blies_run c.h1 0 c.H _) (by simp) (by simp) (by simp) ?_
  have d1 : (c.h1 : Int) ≤ c.H := by omega
  refine wo_p (by simp [q8, w1, Ce.rates]; rfl) ?_
  refine wo_fn (blies_run 1 0 1 _) (by simp) (by simp) (by simp) ?_
  refine wo_p (by simp [w1, Ce.rates]; rfl) ?_
  refine wo_fn (blies_run (-1) (-1) 1 _) (by simp) (by simp) (by simp) ?_
  refine wo_p (by simp; rfl) ?_
  refine wo_fn (isSpan_run 0 0 200000 _ (by omega) (by omega) (by omega) (by omega)) (by simp) (by simp) (by simp) ?_
  refine wo_p (by simp; rfl) ?_
  refine wo_m (by simp; rfl) ?_
  refine wp_r (by simp [w1, w2]; rfl) ?_
  refine wp_loop (wp_seq (wp_r (by simp; rfl) ?_))
  refine wp_seq (wp_condF rfl (wp_exit ?_))
  refine wp_seq (wp_seq (wp_r (by simp; rfl) ?_))
  refine wp_condF rfl (wp_skip ?_)
  refine wp_seq (wp_r (by simp; rfl) ?_)
  refine wp_ret ?_
  simp [c76]
  omega
end Go.Vi.Tryd
