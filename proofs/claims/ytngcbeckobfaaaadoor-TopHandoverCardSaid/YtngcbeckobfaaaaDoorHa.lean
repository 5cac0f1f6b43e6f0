/- The law TopHandover: its plain run answers true. No statement of a claim stands here. -/
import Derived.Test.YtngcbeckobfaaaaDoorSh
import Derived.Test.YtngcbeckobfaaaaDoorBi
set_option linter.unusedSimpArgs false
set_option linter.unusedVariables false
namespace Go.Vi.Tryd
open Go Go.Vi
attribute [local simp] reg pre guarded isCall ev again Env.put alook bindArgs Opd.val ar_add ar_sub ar_mul ar_quo ar_rem ar_eql ar_neq ar_lss ar_leq ar_gtr ar_geq Env.mask List.filterMap ressOf resOf pack V.clasp sealL V.top topL get_new get_set next_new next_set low_new low_set low_mk next_mk get_mk vals sub V.isAgg V.cells V.cell1 setRange bnd ival bval fillIn minmax Nat.ne_of_lt ne2 ne3 ne4 ne5 ne6 V.same sameL Nat.beq_refl

theorem rlies_run (n a b : Int) (h : H) : WC globs prog 11 [.int .i64 n, .int .i64 a, .int .i64 b] h fun v h' p => v = .bool (decide (a ≤ n ∧ n ≤ b)) ∧ h' = h ∧ p = true := by
  refine wc_pure (fn := c11) rfl rfl ?_
  refine wp_seq (wp_r (by simp; rfl) ?_)
  by_cases h1 : a ≤ n
  · refine wp_seq (wp_r (by simp [h1]; rfl) ?_)
    refine wp_ret ?_
    simp [h1, c11]
  · refine wp_seq (wp_r (by simp [h1]; rfl) ?_)
    refine wp_ret ?_
    simp [h1, c11]
theorem to_run (a b : Int) (h : H) : WC globs prog 12 [.int .i64 a, .int .i64 b] h fun v h' p => v = .agg [.int .i64 a, .int .i64 b] ∧ h' = h ∧ p = true := by
  refine wc_pure (fn := c12) rfl rfl ?_
  refine wp_seq (wp_r (by simp; rfl) ?_)
  refine wp_seq (wp_r (by simp; rfl) ?_)
  refine wp_ret ?_
  simp [c12]
theorem valid_run (a b lo hi : Int) (h : H) (h1 : a ≤ b) (h2 : lo ≤ a) (h3 : b ≤ hi) : WC globs prog 14 [.agg [.int .i64 a, .int .i64 b], .int .i64 lo, .int .i64 hi] h fun v h' p => v = .bool true ∧ h' = h ∧ p = true := by
  refine wc_pure (fn := c14) rfl rfl ?_
  refine wp_seq (wp_r (by simp; rfl) ?_)
  refine wp_seq (wp_r (by simp [h1, h2, h3]; rfl) ?_)
  refine wp_ret ?_
  simp [c14]
/-- what is left of a number -/
theorem rest_run (n : Int) (m : Nat) (h : H) (hm : 0 < m) (hm2 : m ≤ 10000) (hn : -9223372036854775808 ≤ n ∧ n ≤ 9223372036854775807) : WC globs prog 10 [.int .i64 n, .int .i64 m] h fun v h' p => (∃ r : Nat, r < m ∧ v = .int .i64 r) ∧ h' = h ∧ p = true := by
  have h1 := Int.tmod_lt_of_pos n (b := (m : Int)) (by omega)
  have h2 := Int.lt_tmod_of_pos n (b := (m : Int)) (by omega)
  have hz : ¬ (m : Int) = 0 := by omega
  have hz' : ¬ m = 0 := by omega
  refine wc_pure (fn := c10) rfl rfl ?_
  refine wp_seq (wp_r (by simp; rfl) ?_)
  refine wp_seq (wp_r (by simp [hz']; rfl) ?_)
  by_cases hneg : n.tmod m < 0
  · have w : IntKind.wrap .i64 (n.tmod m + m) = n.tmod m + m := by rw [wrap64] <;> omega
    refine wp_seq (wp_seq (wp_r (by simp [hneg]; rfl) ?_))
    refine wp_condT rfl (wp_r (by simp [w]; rfl) ?_)
    refine wp_seq (wp_r (by simp; rfl) ?_)
    refine wp_ret ?_
    refine ⟨.inr rfl, [.int .i64 (n.tmod m + m)], rfl, by simp, by simp, ⟨(n.tmod m + m).toNat, by omega, ?_⟩, rfl, rfl⟩
    show V.int .i64 (n.tmod m + m) = _
    rw [Int.toNat_of_nonneg (by omega)]
  · refine wp_seq (wp_seq (wp_r (by simp [hneg]; rfl) ?_))
    refine wp_condF rfl (wp_skip ?_)
    refine wp_seq (wp_r (by simp; rfl) ?_)
    refine wp_ret ?_
    refine ⟨.inr rfl, [.int .i64 (n.tmod m)], rfl, by simp, by simp, ⟨(n.tmod m).toNat, by omega, ?_⟩, rfl, rfl⟩
    show V.int .i64 (n.tmod m) = _
    rw [Int.toNat_of_nonneg (by omega)]

/-- what the examples answer, wherever they are asked for -/
def Ring : Prop := ∀ h : H, (h.next = 1 ∨ h.next = 5 ∨ h.next = 8) → h.low = 0 → WC globs prog 8 [] h fun v h' p => v = .bool true ∧ h' = h ∧ p = true

set_option maxHeartbeats 4000000 in
theorem top_run (ring : Ring) (s : St) (n : Int) (ht : ∀ id, s.t ≠ .own id) (hl : s.ms.length ≤ 9223372036854775807) (hn : -9223372036854775808 ≤ n ∧ n ≤ 9223372036854775807) :
    WC globs prog 3 [s.v, .int .i64 n] ⟨0, 0, []⟩ fun v _ _ => v = .bool true := by
  refine wc_body (fn := c3) rfl rfl ?_
  refine wp_seq (wp_r (by simp [St.v]; rfl) ?_)
  refine wp_seq (wp_rc ?_)
  refine wo_p (by simp; rfl) ?_
  refine wo_call (k := 6) (first := []) (args := [s.v]) (caps := []) (by simp) (by simp) (by simp [St.v]) ((Plan_run s _ ht hl).mono ?_)
  rintro v h1 p ⟨hv, rfl, rfl⟩
  refine ⟨fun h => rfl, by simp, ?_⟩
  rcases hv with ⟨hs, rfl⟩ | ⟨hs, rfl⟩ | ⟨hs, ps, rfl, hp, hpl⟩
  · refine wo_p (by simp; rfl) ?_
    refine wo_m (by simp; rfl) ?_
    refine wp_seq (wp_seq (wp_r (by simp; rfl) ?_))
    refine wp_condT rfl (wp_seq (wp_rc ?_))
    refine wo_p (by simp; rfl) ?_
    refine wo_fn (ring _ (.inl rfl) rfl) (by simp) (by simp) (by simp) ?_
    refine wo_p (by simp; rfl) ?_
    refine wo_m (by simp; rfl) ?_
    refine wp_ret ?_
    simp [c3, leave, thenQ]
  · refine wo_p (by simp; rfl) ?_
    refine wo_m (by simp; rfl) ?_
    refine wp_seq (wp_seq (wp_r (by simp; rfl) ?_))
    refine wp_condT rfl (wp_seq (wp_rc ?_))
    refine wo_p (by simp; rfl) ?_
    refine wo_fn (ring _ (.inl rfl) rfl) (by simp) (by simp) (by simp) ?_
    refine wo_p (by simp; rfl) ?_
    refine wo_m (by simp; rfl) ?_
    refine wp_ret ?_
    simp [c3, leave, thenQ]
  · have hs' := hs
    obtain ⟨s1, s2, s3, s4, s5, s6, s7⟩ := hs'
    refine wo_p (by simp; rfl) ?_
    refine wo_m (by simp; rfl) ?_
    refine wp_seq (wp_seq (wp_rc ?_))
    refine wo_p (by simp; rfl) ?_
    refine wo_fn (check_run s _ hl) (by simp) (by simp [St.v]) (by simp) ?_
    refine wo_p (by simp [hs]; rfl) ?_
    refine wo_m (by simp; rfl) ?_
    refine wp_condF rfl (wp_skip ?_)
    refine wp_seq (wp_rc ?_)
    refine wo_p (by simp; rfl) ?_
    refine wo_fn (IsPlan_run s ps .shut _ hs hp hpl) (by simp) (by simp [St.v]) (by simp) ?_
    refine wo_p (by simp; rfl) ?_
    refine wo_m (by simp; rfl) ?_
    have hne : ps.length ≠ 0 := fun e => hp.ne (List.eq_nil_of_length_eq_zero e)
    have hne' : ((ps.length : Int) == 0) = false := by simp; exact hp.ne
    refine wp_seq (wp_seq (wp_r (by simp [hne']; rfl) ?_))
    refine wp_condF (by simp [hp.ne]) (wp_skip ?_)
    by_cases h1l : ps.length = 1
    · have b1 : ((ps.length : Int) == 1) = true := by rw [h1l]; rfl
      refine wp_seq (wp_seq (wp_r (by simp [b1]; rfl) ?_))
      refine wp_condT (by simp [h1l]) (wp_seq (wp_rc ?_))
      refine wo_p (by simp; rfl) ?_
      refine wo_fn (ring _ (.inl rfl) rfl) (by simp) (by simp) (by simp) ?_
      refine wo_p (by simp; rfl) ?_
      refine wo_m (by simp; rfl) ?_
      refine wp_ret ?_
      simp [c3, leave, thenQ]
    have b1 : ((ps.length : Int) == 1) = false := by simp; omega
    refine wp_seq (wp_seq (wp_r (by simp [b1]; rfl) ?_))
    refine wp_condF (by simp) (wp_skip ?_)
    have w1 : IntKind.wrap .i64 ((ps.length : Int) - 1) = ((ps.length - 1 : Nat) : Int) := by rw [wrap64] <;> omega
    refine wp_seq (wp_rc ?_)
    refine wo_p (by simp [w1]; rfl) ?_
    refine wo_call (k := 10) (first := []) (args := [.int .i64 n, .int .i64 ((ps.length - 1 : Nat) : Int)]) (caps := []) (by simp) (by simp) (by simp) ((rest_run n (ps.length - 1) _ (by omega) (by omega) hn).mono ?_)
    rintro v h2 p ⟨⟨r, hr, rfl⟩, rfl, rfl⟩
    refine ⟨fun h => rfl, by simp, ?_⟩
    refine wo_p (by simp; rfl) ?_
    refine wo_m (by simp; rfl) ?_
    have gt : ps[r]? = some ps[r] := List.getElem?_eq_getElem (by omega)
    have gu : ps[r + 1]? = some ps[r + 1] := List.getElem?_eq_getElem (by omega)
    generalize ps[r] = t at gt
    generalize ps[r + 1] = u at gu
    have T1 := hp.turn r t gt
    have T2 := hp.turn (r + 1) u gu
    have bt := hp.bd t (List.mem_of_getElem? gt)
    have bu := hp.bd u (List.mem_of_getElem? gu)
    obtain ⟨tk, tf, t0, ts, tc, tg⟩ := T1
    obtain ⟨uk, uf, u0, us, uc, ug⟩ := T2
    obtain ⟨p1, p2, p3⟩ := ts tk
    obtain ⟨p4, p5, p6⟩ := us uk
    have hov : overAt s.hours ps r = u.over := by simp [overAt, gu]
    rw [hov] at p3 tc
    have hgap := ug r t tk uk rfl gt
    have ma := s7 s.ms[t.k] (List.getElem_mem _)
    have mb := s7 s.ms[u.k] (List.getElem_mem _)
    generalize hA : s.ms[t.k] = a at *
    generalize hB : s.ms[u.k] = b at *
    have ga : s.ms[t.k]? = some a := by rw [← hA]; exact List.getElem?_eq_getElem tk
    have gb : s.ms[u.k]? = some b := by rw [← hB]; exact List.getElem?_eq_getElem uk
    obtain ⟨a1, a2, a3, a4, a5, a6, a7, a8, a9⟩ := ma
    obtain ⟨b1', b2, b3, b4, b5, b6, b7, b8, b9⟩ := mb
    obtain ⟨t1, t2, t3, t4⟩ := bt
    obtain ⟨u1, u2, u3, u4⟩ := bu
    have w2 : IntKind.wrap .i64 ((r : Int) + 1) = (r : Int) + 1 := by rw [wrap64] <;> omega
    have r0 : (0 : Int) ≤ (r : Int) + 1 := by omega
    have rn : ((r : Int) + 1).toNat = r + 1 := by omega
    refine wp_seq (wp_r (by simp [gt, gu, T.v, w2, r0, rn]; rfl) ?_)
    have w3 : IntKind.wrap .i64 ((s.ms.length : Int) - 1) = (s.ms.length : Int) - 1 := by rw [wrap64] <;> omega
    refine wp_seq (wp_seq (wp_rc ?_))
    refine wo_p (by simp [w3]; rfl) ?_
    refine wo_fn (rlies_run t.k 0 (s.ms.length - 1) _) (by simp) (by simp) (by simp) ?_
    have c1 : (0 : Int) ≤ t.k ∧ (t.k : Int) ≤ s.ms.length - 1 := by omega
    refine wo_p (by simp [c1, w3]; rfl) ?_
    refine wo_fn (rlies_run u.k 0 (s.ms.length - 1) _) (by simp) (by simp) (by simp) ?_
    have c2 : (0 : Int) ≤ u.k ∧ (u.k : Int) ≤ s.ms.length - 1 := by omega
    refine wo_p (by simp [c2]; rfl) ?_
    refine wo_m (by simp; rfl) ?_
    refine wp_condF rfl (wp_skip ?_)
    refine wp_seq (wp_r (by simp [ga, gb, M.v, same_ms]; rfl) ?_)
    have w4 : IntKind.wrap .i64 (t.start + a.warm) = t.start + a.warm := by rw [wrap64] <;> omega
    have w5 : IntKind.wrap .i64 (u.start + b.warm) = u.start + b.warm := by rw [wrap64] <;> omega
    have hfo : offF a t u.over = a.drift * (u.over - (t.start + a.warm)) := by unfold offF; congr 1; omega
    have hfu : offF b u u.over = b.drift * (u.over - (u.start + b.warm)) := by unfold offF; congr 1; omega
    rw [hfo, hfu] at hgap
    refine wp_seq (wp_r (by simp [w4, w5]; rfl) ?_)
    have f1 : t.start + a.warm ≤ u.over := by omega
    have f2 : u.start + b.warm ≤ u.over := by omega
    have f3 : -100000 ≤ t.start + a.warm ∧ -100000 ≤ u.start + b.warm := by omega
    generalize t.start + a.warm = fa at *
    generalize u.start + b.warm = fb at *
    refine wp_seq (wp_r (by simp; rfl) ?_)
    have g1 : (if fb < fa then fb else fa) ≤ fa ∧ (if fb < fa then fb else fa) ≤ fb ∧ -100000 ≤ (if fb < fa then fb else fa) := by split <;> omega
    have g2 : (if fb < fa then fb else fa) = fa ∨ (if fb < fa then fb else fa) = fb := by split <;> omega
    generalize (if fb < fa then fb else fa) = be at *
    obtain ⟨q, hq⟩ : ∃ q : Nat, u.over = be + q := ⟨(u.over - be).toNat, by omega⟩
    obtain ⟨h0, hh0⟩ : ∃ h0 : Nat, fa = be + h0 := ⟨(fa - be).toNat, by omega⟩
    obtain ⟨h1, hh1⟩ : ∃ h1 : Nat, fb = be + h1 := ⟨(fb - be).toNat, by omega⟩
    have w6 : IntKind.wrap .i64 (u.over - be) = q := by rw [wrap64] <;> omega
    have w7 : IntKind.wrap .i64 (fa - be) = h0 := by rw [wrap64] <;> omega
    have w8 : IntKind.wrap .i64 (fb - be) = h1 := by rw [wrap64] <;> omega
    refine wp_seq (wp_r (by simp [w6]; rfl) ?_)
    have e1 : ¬ u.over < fa := by omega
    have e2 : ¬ u.over < fb := by omega
    have e0 : ¬ (q : Int) < 0 := by omega
    refine wp_seq (wp_seq (wp_r (by simp [e0, e1, e2]; rfl) ?_))
    refine wp_condF rfl (wp_skip ?_)
    by_cases h12 : (12 : Int) < q
    · refine wp_seq (wp_seq (wp_r (by simp [h12]; rfl) ?_))
      refine wp_condT rfl (wp_seq (wp_rc ?_))
      refine wo_p (by simp; rfl) ?_
      refine wo_fn (ring _ (.inr (.inl rfl)) rfl) (by simp) (by simp) (by simp) ?_
      refine wo_p (by simp; rfl) ?_
      refine wo_m (by simp; rfl) ?_
      refine wp_ret ?_
      simp [c3, leave, thenQ]
    refine wp_seq (wp_seq (wp_r (by simp [h12]; rfl) ?_))
    refine wp_condF rfl (wp_skip ?_)
    have wa : IntKind.wrap .i64 (-a.drift) = -a.drift := by rw [wrap64] <;> omega
    have wb : IntKind.wrap .i64 (-b.drift) = -b.drift := by rw [wrap64] <;> omega
    obtain ⟨Hn, hH1, hH2, hH3, hH4, hH5⟩ : ∃ Hn : Nat, (if (1 : Int) < (q : Int) then (q : Int) else 1) = Hn ∧ (if 1 < q then (q : Int) else 1) = Hn ∧ 1 ≤ Hn ∧ Hn ≤ 12 ∧ q ≤ Hn := by
      refine ⟨if 1 < q then q else 1, ?_, ?_, ?_, ?_, ?_⟩ <;> (repeat' split) <;> omega
    refine wp_seq (wp_rc ?_)
    refine wo_p (by simp [wa]; rfl) ?_
    refine wo_fn (to_run (-a.drift) a.drift _) (by simp) (by simp) (by simp) ?_
    refine wo_p (by simp [wb]; rfl) ?_
    refine wo_fn (to_run (-b.drift) b.drift _) (by simp) (by simp) (by simp) ?_
    refine wo_p (by simp [wa, wb, hH1, hH2]; rfl) ?_
    refine wo_m (by simp; rfl) ?_
    refine wp_seq (wp_r (by simp [w7, w8]; rfl) ?_)
    have hc : Ce.ok ⟨Hn, a.drift, b.drift, h0, h1⟩ := ⟨hH3, hH4, a8, a9, b8, b9, by show h0 ≤ Hn; omega, by show h1 ≤ Hn; omega⟩
    have hap : apartF ⟨Hn, a.drift, b.drift, h0, h1⟩ q = a.drift * (u.over - fa) + b.drift * (u.over - fb) := by
      show Dd a.drift h0 q + Dd b.drift h1 q = _
      unfold Dd ab
      rw [if_pos (by omega), if_pos (by omega), show ((q - h0 : Nat) : Int) = u.over - fa by omega, show ((q - h1 : Nat) : Int) = u.over - fb by omega]
    have x1 : 0 ≤ a.drift * (u.over - fa) := Int.mul_nonneg a8 (by omega)
    have x2 : 0 ≤ b.drift * (u.over - fb) := Int.mul_nonneg b8 (by omega)
    have x3 := Int.neg_mul a.drift (u.over - fa)
    have wda : IntKind.wrap .i64 (u.over - fa) = u.over - fa := by rw [wrap64] <;> omega
    have wdb : IntKind.wrap .i64 (u.over - fb) = u.over - fb := by rw [wrap64] <;> omega
    generalize hX : a.drift * (u.over - fa) = X at *
    generalize hY : b.drift * (u.over - fb) = Y at *
    have wX : IntKind.wrap .i64 X = X := by rw [wrap64] <;> omega
    have wXn : IntKind.wrap .i64 (-X) = -X := by rw [wrap64] <;> omega
    have wY : IntKind.wrap .i64 Y = Y := by rw [wrap64] <;> omega
    have wS : IntKind.wrap .i64 (X + Y) = X + Y := by rw [wrap64] <;> omega
    have wSn : IntKind.wrap .i64 (-(X + Y)) = -(X + Y) := by rw [wrap64] <;> omega
    have wD : IntKind.wrap .i64 (-X - Y) = -(X + Y) := by rw [wrap64] <;> omega
    have wG : IntKind.wrap .i64 (-s.gap) = -s.gap := by rw [wrap64] <;> omega
    have A1 := fun h => apart_run ⟨Hn, a.drift, b.drift, h0, h1⟩ 0 1 q h hc (by omega) (by omega) (by omega) hH5
    have A2 := fun h => apart_run ⟨Hn, a.drift, b.drift, h0, h1⟩ 1 0 q h hc (by omega) (by omega) (by omega) hH5
    rw [hap] at A1 A2
    refine wp_seq (wp_rc ?_)
    refine wo_p (by simp; rfl) ?_
    refine wo_fn (A1 _) (by simp) (by simp [Ce.v, Ce.cs, Ce.rates, Ce.pairs]) (by simp) ?_
    refine wo_p (by simp; rfl) ?_
    refine wo_m (by simp; rfl) ?_
    refine wp_seq (wp_rc ?_)
    refine wo_p (by simp; rfl) ?_
    refine wo_fn (A2 _) (by simp) (by simp [Ce.v, Ce.cs, Ce.rates, Ce.pairs]) (by simp) ?_
    refine wo_p (by simp; rfl) ?_
    refine wo_m (by simp; rfl) ?_
    refine wp_seq (wp_rc ?_)
    refine wo_p (by simp [wG]; rfl) ?_
    refine wo_fn (valid_run (-(X + Y)) (X + Y) (-s.gap) s.gap _ (by omega) (by omega) (by omega)) (by simp) (by simp) (by simp) ?_
    refine wo_p (by simp [wSn, wS]; rfl) ?_
    refine wo_fn (to_run (-(X + Y)) (X + Y) _) (by simp) (by simp) (by simp) ?_
    have hk2 : keyOk true [some .i64, some .i64] (.agg [.int .i64 (-(X + Y)), .int .i64 (X + Y)]) = true := rfl
    have hq2 : eqv (.agg [.int .i64 (-(X + Y)), .int .i64 (X + Y)]) (.agg [.int .i64 (-(X + Y)), .int .i64 (X + Y)]) = some true := by simp [eqv, eqL, eq1]
    refine wo_k 4 (by simp [hk2, hq2]; rfl) ?_
    refine wo_k 8 (by simp [wa, wda, x3, wXn]; rfl) ?_
    refine wo_k 8 (by simp [wdb, hY, wY, wD]; rfl) ?_
    refine wo_k 7 (by simp [wda, hX, wX]; rfl) ?_
    refine wo_p (by simp [wdb, hY, wY, wS]; rfl) ?_
    refine wo_fn (to_run (-(X + Y)) (X + Y) _) (by simp) (by simp) (by simp) ?_
    refine wo_p (by simp [hk2, hq2]; rfl) ?_
    refine wo_fn (ring _ (.inr (.inr rfl)) rfl) (by simp) (by simp) (by simp) ?_
    refine wo_p (by simp; rfl) ?_
    refine wo_m (by simp; rfl) ?_
    refine wp_ret ?_
    simp [c3, leave]
end Go.Vi.Tryd
