/- Beat's Apart, as a whole. No statement of a claim stands here. -/
import Derived.Test.YtngcbeckobfaaaaDoorBp1
set_option linter.unusedSimpArgs false
set_option linter.unusedVariables false
namespace Go.Vi.Tryd
open Go Go.Vi
attribute [local simp] reg pre guarded isCall ev again Env.put alook bindArgs Opd.val ar_add ar_sub ar_mul ar_quo ar_rem ar_eql ar_neq ar_lss ar_leq ar_gtr ar_geq Env.mask List.filterMap ressOf resOf pack V.clasp sealL V.top topL get_new get_set next_new next_set low_new low_set low_mk next_mk get_mk vals sub V.isAgg V.cells V.cell1 setRange bnd ival bval fillIn minmax Nat.ne_of_lt ne2 ne3 ne4 ne5 ne6 V.same sameL Nat.beq_refl

theorem above_ok (c : Ce) (P : Nat) (a b : Int) (h : H) (es : List (V × V)) (hc : c.ok) (hgP : h.get P = some (.map es)) (hP : P < h.next) (hp : Placed c es) (hv : valid c a b) {A : Nat → Int} {m B : Nat → Nat} {dt : Int} {rt : Nat} (L : Lay c (ix c a b) A m B dt rt) :
    ∃ r : Nat → Int, (∀ v, v < 2 * (c.H + 1) + 1 → r v = layD c A m dt v) ∧ WC globs prog 80 [c.v6 P, spot a b] h fun v h' p => v = .tuple [.agg (arr r), .bool true] ∧ h' = h ∧ p = true := by
  obtain ⟨h1, h2⟩ := above_exact (L.dist hc) (n := 2 * (c.H + 1) + 2) (by omega)
  exact ⟨_, h2, above_run c P a b h es hc hgP hP hp hv h1⟩

theorem can_run (c : Ce) (P : Nat) (h : H) (es : List (V × V)) (hc : c.ok) (hgP : h.get P = some (.map es)) (hP : P < h.next) (hp : Placed c es) : WC globs prog 78 [c.v6 P] h fun v h' p => v = .bool true ∧ h' = h ∧ p = true := by
  refine wc_pure (fn := c78) rfl rfl ?_
  refine wp_seq (wp_r (by simp [Ce.v6, Ce.cs6]; rfl) ?_)
  have hPn : P ≠ h.next := by omega
  obtain ⟨r, -, hr⟩ := above_ok c P (-1) 0 (({ h with low := h.next } : H).new (.cells (c.cs6 P))) es hc (by simp [hPn, hgP]) (by simp; omega) hp (.inl ⟨rfl, rfl⟩) (lay_truth hc)
  refine wp_seq (wp_rc ?_)
  refine wo_p (by simp; rfl) ?_
  refine wo_fn (truth_run _) (by simp) (by simp) (by simp [Ce.rates, Ce.pairs]) ?_
  refine wo_p (by simp; rfl) ?_
  refine wo_fn hr (by simp) (by simp [Ce.v6, Ce.cs6]) (by simp) ?_
  refine wo_p (by simp [Ce.rates, Ce.pairs, arr_const, arr_len, arr_all, arr_drop, -List.reduceReplicate]; rfl) ?_
  refine wo_m (by simp; rfl) ?_
  refine wp_seq (wp_r (by simp; rfl) ?_)
  refine wp_ret ?_
  simp [c78]

theorem asked_run (c : Ce) (h : H) (hc : c.ok) : WC globs prog 41 [c.v, .bool true] h fun v h' _ => ∃ P es, v = .tuple [c.v6 P, .int .i64 0] ∧ Eff h h' ∧ P < h'.next ∧ h'.get P = some (.map es) ∧ Placed c es := by
  refine wc_eff (fn := c41) rfl rfl ?_
  refine wp_seq (wp_r (by simp [Ce.v, Ce.cs]; rfl) ?_)
  refine wp_seq (wp_seq (wp_rc ?_))
  refine wo_p (by simp; rfl) ?_
  refine wo_fn (bcheck_run c _ hc) (by simp) (by simp [Ce.v, Ce.cs]) (by simp) ?_
  refine wo_p (by simp; rfl) ?_
  refine wo_m (by simp; rfl) ?_
  refine wp_seq (wp_r (by simp; rfl) ?_)
  refine wp_condF rfl (wp_skip ?_)
  refine wp_seq (wp_seq (wp_r (by simp; rfl) ?_))
  refine wp_condF rfl (wp_skip ?_)
  refine wp_seq (wp_rc ?_)
  refine wo_p (by simp; rfl) ?_
  refine wo_call (k := 77) (first := []) (args := [c.v, .int .i64 0]) (caps := []) (by simp) (by simp) (by simp [Ce.v, Ce.cs]) ((bopened_run c _ hc).mono ?_)
  rintro v hA p ⟨P, es, rfl, eA, hPn, hP0, gP, pl⟩
  refine ⟨fun h => (by cases h), by simp, ?_⟩
  have nA := eA.next
  simp only [next_new, next_mk] at nA hP0
  have g4 : hA.get (h.next + 1) = some (.cells [.int .i64 0, .slice 0 [] .nil, .slice 0 [] .nil, .slice 0 [] .nil, .int .i64 0, .nilm]) := by rw [eA.get _ (by simp)]; simp
  have lA := eA.low h.next (by simp) (by simp; omega)
  have kA : ∀ j, j < h.next → hA.get j = h.get j := fun j hj => by
    rw [eA.get _ (by simp; omega)]
    simp [show j ≠ h.next by omega, show j ≠ h.next + 1 by omega]
  refine wo_p (by simp [Ce.v6, Ce.cs6, Ce.rates, Ce.pairs]; rfl) ?_
  refine wo_m (by simp; rfl) ?_
  have eB : Eff hA ((hA.new (.cells [.int .i64 0, .slice 0 [] .nil, .slice 0 [] .nil, .slice 0 [] .nil, .int .i64 0, .nilm])).set hA.next (.cells (c.cs6 P))) := Eff.set Eff.new (Nat.le_refl _)
  have g7 : ((hA.new (.cells [.int .i64 0, .slice 0 [] .nil, .slice 0 [] .nil, .slice 0 [] .nil, .int .i64 0, .nilm])).set hA.next (.cells (c.cs6 P))).get hA.next = some (.cells (c.cs6 P)) := by simp
  have nB : ((hA.new (.cells [.int .i64 0, .slice 0 [] .nil, .slice 0 [] .nil, .slice 0 [] .nil, .int .i64 0, .nilm])).set hA.next (.cells (c.cs6 P))).next = hA.next + 1 := rfl
  show thenQ globs prog none _ _ .normal _ ((hA.new (.cells [.int .i64 0, .slice 0 [] .nil, .slice 0 [] .nil, .slice 0 [] .nil, .int .i64 0, .nilm])).set hA.next (.cells (c.cs6 P)))
  generalize (hA.new (.cells [.int .i64 0, .slice 0 [] .nil, .slice 0 [] .nil, .slice 0 [] .nil, .int .i64 0, .nilm])).set hA.next (.cells (c.cs6 P)) = hB at *
  have g4B := (eB.get _ (by omega)).trans g4
  have gPB := (eB.get _ hPn).trans gP
  have lB := eB.low h.next lA (by omega)
  refine wp_seq (wp_r (by simp [g7, Ce.cs6]; rfl) ?_)
  refine wp_seq (wp_seq (wp_rc ?_))
  refine wo_p (by simp; rfl) ?_
  refine wo_pure (k := 78) (first := [c.v6 P]) (args := []) (caps := []) (can_run c P hB es hc gPB (by omega) pl) (by simp) (by simp [Ce.v6, Ce.cs6]) (by simp) (by simp) ?_
  refine wo_p (by simp; rfl) ?_
  refine wo_m (by simp; rfl) ?_
  refine wp_condF rfl (wp_skip ?_)
  refine wp_seq (wp_r (by simp [g7, g4B, Ce.cs6, Ce.rates, Ce.pairs]; rfl) ?_)
  refine wp_ret ?_
  refine ⟨.inr rfl, [c.v6 P, .int .i64 0], by simp [c41, g4B, Ce.v6, Ce.cs6, Ce.rates, Ce.pairs], by simp; omega, .inr fun j hj => ?_, fun h2 p d1 d2 d3 d4 => ?_⟩
  · rw [get_set, if_neg (by omega), eB.get _ (by omega), kA j hj]
  · have hsl : (pack [c.v6 P, .int .i64 0]).clasp = .tuple [c.v6 P, .int .i64 0] := rfl
    rw [hsl] at d4 ⊢
    have htop : P + 1 ≤ (V.tuple [c.v6 P, .int .i64 0]).top := by
      show P + 1 ≤ Nat.max (Nat.max _ (Nat.max _ (Nat.max _ (Nat.max _ (Nat.max _ (Nat.max (P + 1) _)))))) _
      exact Nat.le_trans (Nat.le_trans (Nat.le_max_left _ _) (Nat.le_trans (Nat.le_max_right _ _) (Nat.le_trans (Nat.le_max_right _ _) (Nat.le_trans (Nat.le_max_right _ _) (Nat.le_trans (Nat.le_max_right _ _) (Nat.le_max_right _ _)))))) (Nat.le_max_left _ _)
    rcases d4 with d4 | ⟨d4, d5⟩
    · omega
    · have nn : h2.next = hB.next := d4
      refine ⟨P, es, rfl, ⟨d1, fun j hj => ?_, fun B c1 c2 => ?_⟩, by omega, ?_, pl⟩
      · rw [d5, get_set, if_neg (by omega), eB.get _ (by omega), kA j hj]
      · rcases d2 with d2 | d2
        · omega
        · rw [d2]
          show B ≤ min h.low (min (h.next + 1) hB.low)
          omega
      · rw [d5, get_set, if_neg (by omega)]; exact gPB

theorem ab_symm (x y : Nat) : ab x y = ab y x := by unfold ab; split <;> split <;> omega
/-- how far the clocks can be apart at an hour -/
def apartF (c : Ce) (q : Nat) : Int := Dd (rr c 0) (c.hr 0) q + Dd (rr c 1) (c.hr 1) q
theorem Dd_symm (r : Int) (x y : Nat) : Dd r x y = Dd r y x := by unfold Dd; rw [ab_symm]
theorem far_other {c : Ce} {σ τ q : Nat} (hσ : σ < 2) (hτ : τ < 2) (hne : σ ≠ τ) (hq : q ≤ c.H) :
    layD c (fun k => if k = σ then 0 else Dd (rr c σ) q (c.hr σ)) (fun k => if k = σ then q else c.hr k) (Dd (rr c σ) q (c.hr σ)) (ix c τ q) = apartF c q := by
  unfold layD
  rw [at_k c _ _ hτ hq]
  simp only [if_neg hne.symm]
  unfold apartF
  have h1 : σ = 0 ∧ τ = 1 ∨ σ = 1 ∧ τ = 0 := by omega
  rcases h1 with ⟨rfl, rfl⟩ | ⟨rfl, rfl⟩
  · rw [Dd_symm (rr c 0) q]
  · rw [Dd_symm (rr c 1) q, Int.add_comm]

theorem between_run (c : Ce) (P k1 k2 q : Nat) (h : H) (es : List (V × V)) (hc : c.ok) (hgP : h.get P = some (.map es)) (hP : P < h.next) (hp : Placed c es) (h1 : k1 < 2) (h2 : k2 < 2) (hne : k1 ≠ k2) (hq : q ≤ c.H) :
    WC globs prog 43 [c.v6 P, spot k1 q, spot k2 q] h fun v h' p => v = .agg [.int .i64 (-apartF c q), .int .i64 (apartF c q)] ∧ h' = h ∧ p = true := by
  have hH := hc.H2
  refine wc_pure (fn := c43) rfl rfl ?_
  refine wp_seq (wp_r (by simp [Ce.v6, Ce.cs6, Ce.rates, Ce.pairs, spot]; rfl) ?_)
  have hv1 : valid c k1 q := .inr (by omega)
  have hv2 : valid c k2 q := .inr (by omega)
  have i1 := ix_lt hv1
  have i2 := ix_lt hv2
  have hPn : P ≠ h.next ∧ P ≠ h.next + 1 ∧ P ≠ h.next + 1 + 1 ∧ P ≠ h.next + 1 + 1 + 1 := by omega
  have g3 : ∀ o4 o5 o6, ((((({ h with low := h.next } : H).new (.cells (c.cs6 P))).new o4).new o5).new o6).get h.next = some (.cells (c.cs6 P)) := fun o4 o5 o6 => by simp
  have hbd := Dd_bd (rr_bd hc 0) (p := c.hr 0) (h := q) (by have := hr_le hc 0; omega) (by omega)
  have hbd' := Dd_bd (rr_bd hc 1) (p := c.hr 1) (h := q) (by have := hr_le hc 1; omega) (by omega)
  have hap : 0 ≤ apartF c q ∧ apartF c q ≤ 2400 := by unfold apartF; omega
  have w : IntKind.wrap .i64 (-apartF c q) = -apartF c q := by rw [wrap64] <;> omega
  obtain ⟨r1, e1, hr1⟩ := above_ok c P k2 q ((((({ h with low := h.next } : H).new (.cells (c.cs6 P))).new (.cells [.int .i64 k1, .int .i64 q])).new (.cells [.int .i64 k2, .int .i64 q])).new (.cells [.int .i64 0, .int .i64 0])) es hc (by simp [hPn, hgP]) (by simp; omega) hp hv2 (lay_clock hc h2 hq)
  refine wp_seq (wp_rc ?_)
  refine wo_p (by simp; rfl) ?_
  refine wo_fn hr1 (by simp) (by simp [Ce.v6, Ce.cs6, Ce.rates, Ce.pairs, spot]) (by simp) ?_
  refine wo_p (by simp [arr_const, arr_len, arr_all, arr_drop, -List.reduceReplicate]; rfl) ?_
  refine wo_m (by simp; rfl) ?_
  obtain ⟨r2, e2, hr2⟩ := above_ok c P k1 q ((((((({ h with low := h.next } : H).new (.cells (c.cs6 P))).new (.cells [.int .i64 k1, .int .i64 q])).new (.cells [.int .i64 k2, .int .i64 q])).new (.cells [.int .i64 0, .int .i64 0])).new (.cells (arr fun _ => 0))).set (h.next + 1 + 1 + 1 + 1) (.cells (arr r1))) es hc (by simp [hPn, hgP, show P ≠ h.next + 1 + 1 + 1 + 1 by omega]) (by simp; omega) hp hv1 (lay_clock hc h1 hq)
  have v1 : r1 (ix c k1 q) = apartF c q := by rw [e1 _ i1, far_other h2 h1 (fun e => hne e.symm) hq]
  have v2 : r2 (ix c k2 q) = apartF c q := by rw [e2 _ i2, far_other h1 h2 hne hq]
  refine wp_seq (wp_rc ?_)
  refine wo_p (by simp; rfl) ?_
  refine wo_fn hr2 (by simp) (by simp [Ce.v6, Ce.cs6, Ce.rates, Ce.pairs, spot]) (by simp) ?_
  refine wo_p (by simp [arr_const, arr_len, arr_all, arr_drop, -List.reduceReplicate]; rfl) ?_
  refine wo_m (by simp; rfl) ?_
  have ko1 : keyOk true [some .i64, some .i64] (.agg [.int .i64 k1, .int .i64 q]) = true := rfl
  have ko2 : keyOk true [some .i64, some .i64] (.agg [.int .i64 k2, .int .i64 q]) = true := rfl
  have m1 : mlook (.agg [.int .i64 k1, .int .i64 q]) es = some (some (.int .i64 (ix c k1 q))) := hp.ix hv1
  have m2 : mlook (.agg [.int .i64 k2, .int .i64 q]) es = some (some (.int .i64 (ix c k2 q))) := hp.ix hv2
  generalize ix c k1 q = d1 at *
  generalize ix c k2 q = d2 at *
  have d166 : d1 < 66 := by omega
  have d266 : d2 < 66 := by omega
  have d165 : d1 ≤ 65 := by omega
  have d265 : d2 ≤ 65 := by omega
  have di1 : (d1 : Int) < 66 := by omega
  have di2 : (d2 : Int) < 66 := by omega
  have hP4 : P ≠ h.next + 1 + 1 + 1 + 1 := by omega
  have hP5 : P ≠ h.next + 1 + 1 + 1 + 1 + 1 := by omega
  refine wp_seq (wp_rc ?_)
  refine wo_k 7 (by simp [hPn, hP4, hP5, hgP, mapOf, ko2, m2, lookRes, di2, d265, arr_len, arr_get r2 d266, v2, w]; rfl) ?_
  refine wo_p (by simp [hPn, hP4, hP5, hgP, mapOf, ko1, m1, lookRes, di1, d165, arr_len, arr_get r1 d166, v1]; rfl) ?_
  refine wo_m (by simp; rfl) ?_
  refine wp_ret ?_
  simp [c43]
  omega

theorem apart_run (c : Ce) (k1 k2 q : Nat) (h : H) (hc : c.ok) (h1 : k1 < 2) (h2 : k2 < 2) (hne : k1 ≠ k2) (hq : q ≤ c.H) :
    WC globs prog 13 [c.v, .int .i64 k1, .int .i64 k2, .int .i64 q] h fun v h' p => v = .tuple [.agg [.int .i64 (-apartF c q), .int .i64 (apartF c q)], .int .i64 0] ∧ h' = h ∧ p = true := by
  refine wc_pure (fn := c13) rfl rfl ?_
  refine wp_seq (wp_r (by simp [Ce.v, Ce.cs]; rfl) ?_)
  refine wp_seq (wp_rc ?_)
  refine wo_p (by simp; rfl) ?_
  refine wo_fn (isSpot_run c k1 q _ h1 hq) (by simp) (by simp [Ce.v, Ce.cs]) (by simp [Ce.rates, Ce.pairs]) ?_
  refine wo_p (by simp; rfl) ?_
  refine wo_fn (isSpot_run c k2 q _ h2 hq) (by simp) (by simp [Ce.v, Ce.cs]) (by simp [Ce.rates, Ce.pairs]) ?_
  refine wo_p (by simp; rfl) ?_
  refine wo_call (k := 41) (first := []) (args := [c.v, .bool true]) (caps := []) (by simp) (by simp) (by simp [Ce.v, Ce.cs]) ((asked_run c _ hc).mono ?_)
  rintro v hA p ⟨P, es, rfl, eA, hPn, gP, pl⟩
  refine ⟨fun h => (by cases h), by simp, ?_⟩
  have nA := eA.next
  simp only [next_new, next_mk] at nA
  have g8 : hA.get (h.next + 1) = some (.cells [.int .i64 0, .int .i64 0]) := by rw [eA.get _ (by simp)]; simp
  have g4 : hA.get h.next = some (.cells c.cs) := by rw [eA.get _ (by simp; omega)]; simp [Ce.cs]
  have lA := eA.low h.next (by simp) (by simp; omega)
  have x0 : h.next ≠ hA.next := by omega
  have x1 : h.next + 1 ≠ hA.next := by omega
  refine wo_p (by simp [Ce.v6, Ce.cs6, Ce.cs, Ce.rates, Ce.pairs, g4, x0, x1]; rfl) ?_
  refine wo_m (by simp; rfl) ?_
  have eB : Eff hA ((hA.new (.cells [.int .i64 0, .slice 0 [] .nil, .slice 0 [] .nil, .slice 0 [] .nil, .int .i64 0, .nilm])).set hA.next (.cells (c.cs6 P))) := Eff.set Eff.new (Nat.le_refl _)
  have g10 : ((hA.new (.cells [.int .i64 0, .slice 0 [] .nil, .slice 0 [] .nil, .slice 0 [] .nil, .int .i64 0, .nilm])).set hA.next (.cells (c.cs6 P))).get hA.next = some (.cells (c.cs6 P)) := by simp
  have nB : ((hA.new (.cells [.int .i64 0, .slice 0 [] .nil, .slice 0 [] .nil, .slice 0 [] .nil, .int .i64 0, .nilm])).set hA.next (.cells (c.cs6 P))).next = hA.next + 1 := rfl
  show thenQ globs prog none _ _ .normal _ ((hA.new (.cells [.int .i64 0, .slice 0 [] .nil, .slice 0 [] .nil, .slice 0 [] .nil, .int .i64 0, .nilm])).set hA.next (.cells (c.cs6 P)))
  generalize (hA.new (.cells [.int .i64 0, .slice 0 [] .nil, .slice 0 [] .nil, .slice 0 [] .nil, .int .i64 0, .nilm])).set hA.next (.cells (c.cs6 P)) = hB at *
  have g8B := (eB.get _ (by omega)).trans g8
  have gPB := (eB.get _ hPn).trans gP
  have lB := eB.low h.next lA (by omega)
  refine wp_seq (wp_seq (wp_r (by simp; rfl) ?_))
  refine wp_condF rfl (wp_skip ?_)
  refine wp_seq (wp_rc ?_)
  refine wo_p (by simp [g10, Ce.cs6]; rfl) ?_
  refine wo_fn (between_run c P k1 k2 q hB es hc gPB (by omega) pl h1 h2 hne hq) (by simp) (by simp [Ce.v6, Ce.cs6, spot]) (by simp) ?_
  refine wo_p (by simp [g8B]; rfl) ?_
  refine wo_m (by simp; rfl) ?_
  refine wp_ret ?_
  simp [c13, g8B]
  omega
end Go.Vi.Tryd
