/- Spare's small functions and its check: what their plain codes compute. No statement of a claim stands here. -/
import Derived.Test.YtngcbeckobfaaaaDoorVw
import Derived.Test.YtngcbeckobfaaaaDoorVc
set_option linter.unusedSimpArgs false
set_option linter.unusedVariables false
namespace Go.Vi.Tryd
open Go Go.Vi
attribute [local simp] reg pre guarded isCall ev again Env.put alook bindArgs Opd.val arith Env.mask List.filterMap ressOf resOf pack V.clasp sealL V.top topL get_new get_set next_new next_set low_new low_set low_mk next_mk get_mk vals sub V.isAgg V.cells V.cell1 setRange bnd ival bval fillIn minmax Nat.ne_of_lt ne2 ne3 ne4 ne5 ne6

structure M where
  (start warm low high drift : Int)
def M.cs (m : M) : List V := [.int .i64 m.start, .int .i64 m.warm, .int .i64 m.low, .int .i64 m.high, .int .i64 m.drift]
def M.v (m : M) : V := .agg [.int .i64 m.start, .int .i64 m.warm, .int .i64 m.low, .int .i64 m.high, .int .i64 m.drift]
structure St where
  (hours gap : Int) (ms : List M) (t : Tip)
def St.v (s : St) : V := .agg [.int .i64 s.hours, .int .i64 s.gap, .slice 5 (s.ms.map M.v) s.t]
def M.ok (m : M) : Prop := -500 ≤ m.start ∧ m.start ≤ 500 ∧ 0 ≤ m.warm ∧ m.warm ≤ 500 ∧ 0 ≤ m.low ∧ m.low ≤ m.high ∧ m.high ≤ 500 ∧ 0 ≤ m.drift ∧ m.drift ≤ 100
instance (m : M) : Decidable m.ok := by unfold M.ok; infer_instance
def St.ok (s : St) : Prop := 1 ≤ s.hours ∧ s.hours ≤ 500 ∧ 0 ≤ s.gap ∧ s.gap ≤ 1000 ∧ 1 ≤ s.ms.length ∧ s.ms.length ≤ 8 ∧ ∀ m ∈ s.ms, m.ok
instance (s : St) : Decidable s.ok := by unfold St.ok; infer_instance

theorem lies_run (n a b : Int) (h : H) : WC globs prog 34 [.int .i64 n, .int .i64 a, .int .i64 b] h fun v h' p => v = .bool (decide (a ≤ n ∧ n ≤ b)) ∧ h' = h ∧ p = true := by
  refine wc_pure (fn := c34) rfl rfl ?_
  refine wp_seq (wp_r (by simp; rfl) ?_)
  by_cases h1 : a ≤ n
  · refine wp_seq (wp_r (by simp [h1]; rfl) ?_)
    refine wp_ret ?_
    simp [h1, c34]
  · refine wp_seq (wp_r (by simp [h1]; rfl) ?_)
    refine wp_ret ?_
    simp [h1, c34]

theorem check_loop (ms : List M) (t : Tip) (B : Nat) : ∀ (k i : Nat) (ok : Bool) (h : H), i + k = ms.length → ms.length ≤ 9223372036854775807 → B ≤ h.low → B ≤ h.next →
    WP globs prog none c7_l0 [(3, .bool ok), (21, .slice 5 (ms.map M.v) t), (22, .int .i64 ms.length), (23, .int .i64 i)] h
      fun x e' h' => x = .exit 0 ∧ alook 3 e' = some (.bool (ok && (ms.drop i).all fun m => decide m.ok)) ∧ B ≤ h'.low
  | 0, i, ok, h, hi, hm, hB, hN => by
    have : i = ms.length := by omega
    subst this
    refine wp_loop (wp_seq (wp_r (by simp; rfl) ?_))
    refine wp_seq (wp_condF rfl (wp_exit ?_))
    simp [thenQ, hB]
  | k + 1, i, ok, h, hi, hm, hB, hN => by
    have hlt : i < ms.length := by omega
    refine wp_loop (wp_seq (wp_r (by simp [hlt]; rfl) ?_))
    refine wp_seq (wp_condT rfl (wp_skip ?_))
    refine wp_seq (wp_block (wp_seq (wp_r (by simp [hlt, M.v]; rfl) ?_)))
    have fin : ∀ (ok' : Bool) h', B ≤ h'.low → B ≤ h'.next → (ok && ((ms.drop i).all fun m => decide m.ok)) = (ok' && ((ms.drop (i + 1)).all fun m => decide m.ok)) → WP globs prog none c7_l0.l.r.r.r
       [(3, .bool ok'), (21, .slice 5 (ms.map M.v) t), (22, .int .i64 ms.length), (23, .int .i64 i)] h' (thenQ globs prog none c7_l0 fun x e' h' => x = .exit 0 ∧ alook 3 e' = some (.bool (ok && (ms.drop i).all fun m => decide m.ok)) ∧ B ≤ h'.low) := by
      intro ok' h' h1 h2 h3
      have hw : IntKind.wrap .i64 (i + 1 : Int) = ((i + 1 : Nat) : Int) := by rw [wrap64] <;> omega
      refine wp_r (by simp [hw]; rfl) ?_
      rw [h3]
      exact check_loop ms t B k (i + 1) ok' h' (by omega) hm h1 h2
    have hd : ms.drop i = ms[i] :: ms.drop (i + 1) := List.drop_eq_getElem_cons hlt
    generalize hmi : ms[i] = m at *
    have no : ¬ m.ok → (ok && ((ms.drop i).all fun m => decide m.ok)) = false := fun h => by rw [hd]; simp [h]
    refine wp_rc ?_
    cases ok
    · refine wo_p (by simp; rfl) ?_
      refine wo_m (by simp; rfl) ?_
      exact fin false _ (by simp; omega) (by simp; omega) (by simp)
    refine wo_p (by simp; rfl) ?_
    refine wo_fn (lies_run m.start (-500) 500 _) (by simp) (by simp) (by simp) ?_
    by_cases c1 : -500 ≤ m.start ∧ m.start ≤ 500
    case neg =>
      refine wo_p (by simp [c1]; rfl) ?_
      refine wo_m (by simp; rfl) ?_
      exact fin false _ (by simp; omega) (by simp; omega) (by rw [no (by unfold M.ok; omega)]; rfl)
    refine wo_p (by simp [c1]; rfl) ?_
    refine wo_fn (lies_run m.warm 0 500 _) (by simp) (by simp) (by simp) ?_
    by_cases c2 : 0 ≤ m.warm ∧ m.warm ≤ 500
    case neg =>
      refine wo_p (by simp [c2]; rfl) ?_
      refine wo_m (by simp; rfl) ?_
      exact fin false _ (by simp; omega) (by simp; omega) (by rw [no (by unfold M.ok; omega)]; rfl)
    by_cases c3 : 0 ≤ m.low
    case neg =>
      refine wo_p (by simp [c2, c3]; rfl) ?_
      refine wo_m (by simp; rfl) ?_
      exact fin false _ (by simp; omega) (by simp; omega) (by rw [no (by unfold M.ok; omega)]; rfl)
    by_cases c4 : m.low ≤ m.high
    case neg =>
      refine wo_p (by simp [c2, c3, c4]; rfl) ?_
      refine wo_m (by simp; rfl) ?_
      exact fin false _ (by simp; omega) (by simp; omega) (by rw [no (by unfold M.ok; omega)]; rfl)
    by_cases c5 : m.high ≤ 500
    case neg =>
      refine wo_p (by simp [c2, c3, c4, c5]; rfl) ?_
      refine wo_m (by simp; rfl) ?_
      exact fin false _ (by simp; omega) (by simp; omega) (by rw [no (by unfold M.ok; omega)]; rfl)
    refine wo_p (by simp [c2, c3, c4, c5]; rfl) ?_
    refine wo_fn (lies_run m.drift 0 100 _) (by simp) (by simp) (by simp) ?_
    by_cases c6 : 0 ≤ m.drift ∧ m.drift ≤ 100
    case neg =>
      refine wo_p (by simp [c6]; rfl) ?_
      refine wo_m (by simp; rfl) ?_
      exact fin false _ (by simp; omega) (by simp; omega) (by rw [no (by unfold M.ok; omega)]; rfl)
    refine wo_p (by simp [c6]; rfl) ?_
    refine wo_m (by simp; rfl) ?_
    exact fin true _ (by simp; omega) (by simp; omega) (by rw [hd]; simp [show m.ok by unfold M.ok; omega])

theorem check_run (s : St) (h : H) (hl : s.ms.length ≤ 9223372036854775807) : WC globs prog 7 [s.v] h fun v h' p => v = .int .i64 (if s.ok then 0 else 80) ∧ h' = h ∧ p = true := by
  refine wc_pure (fn := c7) rfl rfl ?_
  refine wp_seq (wp_r (by simp [St.v]; rfl) ?_)
  have key : ∀ ok : Bool, decide s.ok = (ok && s.ms.all fun m => decide m.ok) → WP globs prog none c7.body.r.r [(1, .ptr h.next 0), (3, .bool ok)] (({ h with low := h.next } : H).new (.cells [.int .i64 s.hours, .int .i64 s.gap, .slice 5 (s.ms.map M.v) s.t])) fun x e1 h1 => (x = .normal ∨ x = .ret) ∧ ∃ us, ressOf e1 h1 [.tmp 2] = some us ∧ (pack us).clasp.top ≤ h.next ∧ h.next ≤ h1.low ∧ ((pack us).clasp = .int .i64 (if s.ok then 0 else 80) ∧ h = h ∧ true = true) := by
    intro ok hok
    refine wp_seq (wp_seq (wp_r (by simp; rfl) ?_))
    refine wp_block ((check_loop s.ms s.t h.next s.ms.length 0 ok _ (by omega) hl (by simp) (by simp)).mono ?_)
    rintro x e' h' ⟨rfl, h3, hB⟩
    rw [List.drop_zero, ← hok] at h3
    by_cases hs : s.ok
    · refine wp_seq (wp_seq (wp_r (by simp [h3, hs]; rfl) ?_))
      refine wp_condF rfl (wp_skip ?_)
      refine wp_seq (wp_r (by simp; rfl) ?_)
      refine wp_ret ?_
      simp [hB, hs]
    · refine wp_seq (wp_seq (wp_r (by simp [h3, hs]; rfl) ?_))
      refine wp_condT rfl (wp_seq (wp_r (by simp; rfl) ?_))
      refine wp_ret ?_
      simp [hB, hs, thenQ]
  refine wp_seq (wp_rc ?_)
  refine wo_p (by simp; rfl) ?_
  refine wo_fn (lies_run s.hours 1 500 _) (by simp) (by simp) (by simp) ?_
  by_cases c1 : 1 ≤ s.hours ∧ s.hours ≤ 500
  case neg =>
    refine wo_p (by simp [c1]; rfl) ?_
    refine wo_m (by simp; rfl) ?_
    exact key false (by simp [show ¬ s.ok by unfold St.ok; omega])
  refine wo_p (by simp [c1]; rfl) ?_
  refine wo_fn (lies_run s.gap 0 1000 _) (by simp) (by simp) (by simp) ?_
  by_cases c2 : 0 ≤ s.gap ∧ s.gap ≤ 1000
  case neg =>
    refine wo_p (by simp [c2]; rfl) ?_
    refine wo_m (by simp; rfl) ?_
    exact key false (by simp [show ¬ s.ok by unfold St.ok; omega])
  refine wo_p (by simp [c2]; rfl) ?_
  refine wo_fn (lies_run s.ms.length 1 8 _) (by simp) (by simp) (by simp) ?_
  by_cases c3 : 1 ≤ (s.ms.length : Int) ∧ (s.ms.length : Int) ≤ 8
  case neg =>
    refine wo_p (by simp [c3]; rfl) ?_
    refine wo_m (by simp; rfl) ?_
    exact key false (by simp [show ¬ s.ok by unfold St.ok; omega])
  refine wo_p (by simp [c3]; rfl) ?_
  refine wo_m (by simp; rfl) ?_
  refine key true ?_
  have e : s.ok ↔ ∀ m ∈ s.ms, m.ok := ⟨fun h => h.2.2.2.2.2.2, fun h => ⟨by omega, by omega, by omega, by omega, by omega, by omega, h⟩⟩
  rw [Bool.true_and]
  by_cases hs : s.ok
  · rw [decide_eq_true hs]
    symm
    simpa using e.1 hs
  · rw [decide_eq_false hs]
    symm
    rw [← Bool.not_eq_true]
    simp only [List.all_eq_true, decide_eq_true_eq]
    exact fun h => hs (e.2 h)

theorem of_run (s : St) (k : Nat) (h : H) (hk : k < s.ms.length) : WC globs prog 32 [s.v, .int .i64 k] h fun v h' p => v = .agg [.int .i64 s.ms[k].start, .int .i64 s.ms[k].warm, .int .i64 s.ms[k].low, .int .i64 s.ms[k].high, .int .i64 s.ms[k].drift, .int .i64 s.gap] ∧ h' = h ∧ p = true := by
  refine wc_pure (fn := c32) rfl rfl ?_
  refine wp_seq (wp_r (by simp [St.v]; rfl) ?_)
  refine wp_seq (wp_r (by simp [hk, M.v]; rfl) ?_)
  refine wp_ret ?_
  simp [c32]
/-- a machine in the calculation -/
def mach (m : M) (gap : Int) : V := .agg [.int .i64 m.start, .int .i64 m.warm, .int .i64 m.low, .int .i64 m.high, .int .i64 m.drift, .int .i64 gap]
def M.last (m : M) : Int := max 0 (m.low - m.warm)
def M.stint (m : M) (gap : Int) : Int := if m.drift = 0 then m.last else min m.last (gap.tdiv m.drift)
theorem low1_run (a b : Int) (h : H) : WC globs prog 130 [.agg [.int .i64 a, .int .i64 b]] h fun v h' p => v = .int .i64 a ∧ h' = h ∧ p = true := by
  refine wc_pure (fn := c130) rfl rfl ?_
  refine wp_seq (wp_r (by simp; rfl) ?_)
  refine wp_seq (wp_r (by simp; rfl) ?_)
  refine wp_ret ?_
  simp [c130]
theorem low_run (h : H) : WC globs prog 107 [] h fun v h' p => v = .agg [.func 130 [] []] ∧ h' = h ∧ p = true := by
  refine wc_pure (fn := c107) rfl rfl ?_
  refine wp_seq (wp_r (by simp; rfl) ?_)
  refine wp_seq (wp_r (by simp; rfl) ?_)
  refine wp_ret ?_
  simp [c107]
theorem last_run (m : M) (gap : Int) (h : H) (hm : m.ok) : WC globs prog 68 [mach m gap] h fun v h' p => v = .int .i64 m.last ∧ h' = h ∧ p = true := by
  obtain ⟨m1, m2, m3, m4, m5, m6, m7, m8, m9⟩ := hm
  refine wc_pure (fn := c68) rfl rfl ?_
  refine wp_seq (wp_r (by simp [mach]; rfl) ?_)
  refine wp_seq (wp_rc ?_)
  refine wo_p (by simp; rfl) ?_
  refine wo_fn (low_run _) (by simp) (by simp) (by simp) ?_
  refine wo_p (by simp; rfl) ?_
  refine wo_fv (low1_run m.low m.high _) (by simp) (by simp) (by simp) (by simp) ?_
  have hw : IntKind.wrap .i64 (m.low - m.warm) = m.low - m.warm := by rw [wrap64] <;> omega
  refine wo_p (by simp [hw]; rfl) ?_
  refine wo_m (by simp; rfl) ?_
  refine wp_ret ?_
  simp [c68, M.last]
  omega
theorem least1_run (a b : Int) (t : Tip) (h : H) : WC globs prog 69 [.int .i64 a, .slice 1 [.int .i64 b] t] h fun v h' p => v = .int .i64 (min a b) ∧ h' = h ∧ p = true := by
  refine wc_pure (fn := c69) rfl rfl ?_
  refine wp_seq (wp_r (by simp; rfl) ?_)
  refine wp_seq (wp_seq (wp_r (by simp; rfl) ?_))
  refine wp_block (wp_loop (wp_seq (wp_r (by simp; rfl) ?_)))
  refine wp_seq (wp_condT rfl (wp_skip ?_))
  refine wp_seq (wp_block (wp_seq (wp_r (by simp; rfl) ?_)))
  refine wp_r (by simp; rfl) ?_
  refine wp_r (by simp; rfl) ?_
  refine wp_loop (wp_seq (wp_r (by simp; rfl) ?_))
  refine wp_seq (wp_condF rfl (wp_exit ?_))
  refine wp_seq (wp_r (by simp; rfl) ?_)
  refine wp_ret ?_
  simp [c69]
  omega
theorem stint_run (m : M) (gap : Int) (h : H) (hm : m.ok) (hg : 0 ≤ gap ∧ gap ≤ 1000) : WC globs prog 33 [mach m gap] h fun v h' p => v = .int .i64 (m.stint gap) ∧ h' = h ∧ p = true := by
  have hm' := hm
  obtain ⟨m1, m2, m3, m4, m5, m6, m7, m8, m9⟩ := hm
  refine wc_pure (fn := c33) rfl rfl ?_
  refine wp_seq (wp_r (by simp [mach]; rfl) ?_)
  by_cases hd : m.drift = 0
  · refine wp_seq (wp_seq (wp_r (by simp [hd]; rfl) ?_))
    refine wp_condT rfl (wp_seq (wp_rc ?_))
    refine wo_p (by simp; rfl) ?_
    refine wo_fn (last_run m gap _ hm') (by simp) (by simp [mach, hd]) (by simp) ?_
    refine wo_p (by simp; rfl) ?_
    refine wo_m (by simp; rfl) ?_
    refine wp_ret ?_
    simp [c33, M.stint, hd, thenQ]
  · have hd' : (m.drift == 0) = false := by simp [hd]
    refine wp_seq (wp_seq (wp_r (by simp [hd']; rfl) ?_))
    refine wp_condF rfl (wp_skip ?_)
    refine wp_seq (wp_rc ?_)
    refine wo_p (by simp; rfl) ?_
    refine wo_fn (last_run m gap _ hm') (by simp) (by simp [mach]) (by simp) ?_
    have h1 : 0 ≤ gap.tdiv m.drift := Int.tdiv_nonneg hg.1 m8
    have h2 : gap.tdiv m.drift ≤ gap := Int.tdiv_le_self _ hg.1
    have hw : IntKind.wrap .i64 (gap.tdiv m.drift) = gap.tdiv m.drift := by rw [wrap64] <;> omega
    refine wo_p (by simp [hd, hw]; rfl) ?_
    refine wo_fn (least1_run m.last (gap.tdiv m.drift) .shut _) (by simp) (by simp) (by simp) ?_
    refine wo_p (by simp; rfl) ?_
    refine wo_m (by simp; rfl) ?_
    refine wp_ret ?_
    simp [c33, M.stint, hd]
end Go.Vi.Tryd
