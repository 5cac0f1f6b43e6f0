/- Spare's isPlan: of a plan that is one, its plain code says so. No statement of a claim stands here. -/
import Derived.Test.YtngcbeckobfaaaaDoorSa
set_option linter.unusedSimpArgs false
set_option linter.unusedVariables false
namespace Go.Vi.Tryd
open Go Go.Vi
attribute [local simp] reg pre guarded isCall ev again Env.put alook bindArgs Opd.val arith Env.mask List.filterMap ressOf resOf pack V.clasp sealL V.top topL get_new get_set next_new next_set low_new low_set low_mk next_mk get_mk vals sub V.isAgg V.cells V.cell1 setRange bnd ival bval fillIn minmax Nat.ne_of_lt ne2 ne3 ne4 ne5 ne6

structure T where
  (k : Nat) (start over : Int)
def T.v (t : T) : V := .agg [.int .i64 t.k, .int .i64 t.start, .int .i64 t.over]
def T.ok (t : T) : Prop := -100000 ≤ t.start ∧ t.start ≤ 100000 ∧ -100000 ≤ t.over ∧ t.over ≤ 100000

/-- by how much the machine of a turn is off -/
def offF (m : M) (t : T) (hour : Int) : Int := m.drift * (hour - t.start - m.warm)
theorem offF_bd {m : M} {t : T} {hour : Int} (hm : m.ok) (ht : t.ok) (hh : -100000 ≤ hour ∧ hour ≤ 100000) : -100000000 ≤ offF m t hour ∧ offF m t hour ≤ 100000000 := by
  obtain ⟨m1, m2, m3, m4, m5, m6, m7, m8, m9⟩ := hm
  obtain ⟨t1, t2, t3, t4⟩ := ht
  unfold offF
  have h1 : -300000 ≤ hour - t.start - m.warm := by omega
  have h2 : hour - t.start - m.warm ≤ 300000 := by omega
  generalize hour - t.start - m.warm = x at *
  have h3 := Int.mul_le_mul_of_nonneg_left h2 m8
  have h4 := Int.mul_le_mul_of_nonneg_left h1 m8
  omega
theorem off_run (s : St) (t : T) (hour : Int) (h : H) (hk : t.k < s.ms.length) (hm : s.ms[t.k].ok) (ht : t.ok) (hh : -100000 ≤ hour ∧ hour ≤ 100000) :
    WC globs prog 75 [s.v, t.v, .int .i64 hour] h fun v h' p => v = .int .i64 (offF s.ms[t.k] t hour) ∧ h' = h ∧ p = true := by
  have hb := offF_bd hm ht hh
  obtain ⟨m1, m2, m3, m4, m5, m6, m7, m8, m9⟩ := hm
  have ht' := ht
  obtain ⟨t1, t2, t3, t4⟩ := ht
  refine wc_pure (fn := c75) rfl rfl ?_
  refine wp_seq (wp_r (by simp [St.v, T.v]; rfl) ?_)
  refine wp_seq (wp_r (by simp [hk, M.v]; rfl) ?_)
  have w1 : IntKind.wrap .i64 (hour - t.start) = hour - t.start := by rw [wrap64] <;> omega
  have w2 : IntKind.wrap .i64 (hour - t.start - s.ms[t.k].warm) = hour - t.start - s.ms[t.k].warm := by rw [wrap64] <;> omega
  have w3 : IntKind.wrap .i64 (s.ms[t.k].drift * (hour - t.start - s.ms[t.k].warm)) = offF s.ms[t.k] t hour := by
    show IntKind.wrap .i64 (offF s.ms[t.k] t hour) = _
    rw [wrap64] <;> omega
  refine wp_seq (wp_r (by simp [w1, w2, w3]; rfl) ?_)
  refine wp_ret ?_
  simp [c75]
  omega

/-- eight marks -/
def bits (b : Nat → Bool) : List V := (List.range 8).map fun k => .bool (b k)
theorem bits_len (b : Nat → Bool) : (bits b).length = 8 := by simp [bits]
theorem bits_get (b : Nat → Bool) {k : Nat} (hk : k < 8) : (bits b)[k]? = some (.bool (b k)) := by simp [bits, hk]
theorem bits_set (b : Nat → Bool) {k : Nat} (hk : k < 8) : (bits b).take k ++ .bool true :: (bits b).drop (k + 1) = bits (fun j => decide (j = k) || b j) := by
  apply List.ext_getElem?
  intro i
  have hl := bits_len b
  rcases Nat.lt_trichotomy i k with h | h | h
  · rw [List.getElem?_append_left (by simp [hl]; omega), List.getElem?_take_of_lt h, bits_get _ (by omega), bits_get _ (by omega)]
    simp [show ¬ i = k by omega]
  · subst h
    rw [List.getElem?_append_right (by simp [hl]; omega), bits_get _ (by omega)]
    simp [hl, Nat.min_eq_left (Nat.le_of_lt hk)]
  · rw [List.getElem?_append_right (by simp [hl]; omega)]
    simp only [List.length_take, hl, Nat.min_eq_left (Nat.le_of_lt hk)]
    rw [show i - k = (i - k - 1) + 1 by omega, List.getElem?_cons_succ, List.getElem?_drop, show k + 1 + (i - k - 1) = i by omega]
    by_cases hi : i < 8
    · rw [bits_get _ hi, bits_get _ hi]
      simp [show ¬ i = k by omega]
    · rw [List.getElem?_eq_none (by rw [hl]; omega), List.getElem?_eq_none (by rw [bits_len]; omega)]
theorem bits_all (b : Nat → Bool) : (bits b).all V.cell1 = true := by simp [bits]
theorem bits_zero : bits (fun _ => false) = [.bool false, .bool false, .bool false, .bool false, .bool false, .bool false, .bool false, .bool false] := rfl

/-- what a plan owes at a turn -/
def overAt (hours : Int) (ps : List T) (i : Nat) : Int := match ps[i + 1]? with | some t => t.over | none => hours
structure TurnOk (s : St) (hours : Int) (ps : List T) (i : Nat) (t : T) : Prop where
  k : t.k < s.ms.length
  fresh : ∀ j u, j < i → ps[j]? = some u → u.k ≠ t.k
  first : i = 0 → t.over = 0
  start : ∀ h : t.k < s.ms.length, (s.ms[t.k]).start ≤ t.start ∧ (s.ms[t.k]).warm ≤ t.over - t.start ∧ overAt hours ps i - t.start ≤ (s.ms[t.k]).low
  climb : t.over < overAt hours ps i
  gap : ∀ j u (hu : u.k < s.ms.length) (h : t.k < s.ms.length), j + 1 = i → ps[j]? = some u → offF s.ms[u.k] u t.over + offF s.ms[t.k] t t.over ≤ s.gap
structure PlanOk (s : St) (hours : Int) (ps : List T) : Prop where
  ne : ps ≠ []
  bd : ∀ t ∈ ps, t.ok
  turn : ∀ i t, ps[i]? = some t → TurnOk s hours ps i t

def marks (ps : List T) (i : Nat) (k : Nat) : Bool := (ps.take i).any fun t => decide (t.k = k)
theorem marks_succ {ps : List T} {i : Nat} {t : T} (h : ps[i]? = some t) : (fun j => decide (j = t.k) || marks ps i j) = marks ps (i + 1) := by
  funext j
  obtain ⟨hi, hg⟩ := List.getElem?_eq_some_iff.1 h
  simp only [marks, List.take_add_one, h, Option.toList, List.any_append, List.any_cons, List.any_nil, Bool.or_false]
  by_cases hj : j = t.k
  · subst hj; simp
  · have : ¬ t.k = j := fun e => hj e.symm
    simp [hj, this]

set_option maxHeartbeats 4000000 in
theorem isPlan_loop (s : St) (hours : Int) (ps : List T) (tt : Tip) (B p3 p7 : Nat) (hs : s.ok) (hp : PlanOk s hours ps) (hh : -100000 ≤ hours ∧ hours ≤ 100000) (hlen : ps.length ≤ 1000) : ∀ (k i : Nat) (h : H), i + k = ps.length → B ≤ h.low → B ≤ p7 → p3 < h.next → p7 < h.next → p3 ≠ p7 → B ≤ h.next →
    h.get p3 = some (.cells [.int .i64 s.hours, .int .i64 s.gap, .slice 5 (s.ms.map M.v) s.t]) → h.get p7 = some (.cells (bits (marks ps i))) →
    WP globs prog none c40_l0 [(1, .slice 3 (ps.map T.v) tt), (2, .int .i64 hours), (3, .ptr p3 0), (7, .ptr p7 0), (12, .slice 3 (ps.map T.v) tt), (13, .int .i64 ps.length), (14, .int .i64 i)] h
      fun x e' h' => x = .exit 0 ∧ alook 7 e' = some (.ptr p7 0) ∧ h'.get p7 = some (.cells (bits (marks ps ps.length))) ∧ B ≤ h'.low
  | 0, i, h, hi, hB, hB7, h3, h7, h37, hN, g3, g7 => by
    have : i = ps.length := by omega
    subst this
    refine wp_loop (wp_seq (wp_r (by simp; rfl) ?_))
    refine wp_seq (wp_condF rfl (wp_exit ?_))
    simp [thenQ, hB, g7]
  | k + 1, i, h, hi, hB, hB7, h3, h7, h37, hN, g3, g7 => by
    have hlt : i < ps.length := by omega
    have hti : ps[i]? = some ps[i] := List.getElem?_eq_getElem hlt
    generalize hte : ps[i] = t at hti
    obtain ⟨tk, tf, t0, ts, tc, tg⟩ := hp.turn i t hti
    obtain ⟨b1, b2, b3, b4⟩ := hp.bd t (by rw [← hte]; exact List.getElem_mem _)
    obtain ⟨s1, s2, s3, s4, s5, s6, s7⟩ := hs
    have hm := s7 s.ms[t.k] (List.getElem_mem _)
    obtain ⟨m1, m2, m3, m4, m5, m6, m7, m8, m9⟩ := hm
    obtain ⟨q1, q2, q3⟩ := ts tk
    have hk8 : t.k < 8 := by omega
    have hfr : marks ps i t.k = false := by
      unfold marks
      rw [← Bool.not_eq_true, List.any_eq_true]
      rintro ⟨u, hu, hk⟩
      obtain ⟨j, hj⟩ := List.getElem?_of_mem hu
      rw [List.getElem?_take] at hj
      split at hj
      · exact tf j u (by assumption) hj (of_decide_eq_true hk)
      · cases hj
    refine wp_loop (wp_seq (wp_r (by simp [hlt]; rfl) ?_))
    refine wp_seq (wp_condT rfl (wp_skip ?_))
    refine wp_seq (wp_block (wp_seq (wp_r (by simp [hti, T.v]; rfl) ?_)))
    have n3 : p3 ≠ h.next := by omega
    have n7 : p7 ≠ h.next := by omega
    have w1 : IntKind.wrap .i64 ((s.ms.length : Int) - 1) = s.ms.length - 1 := by rw [wrap64] <;> omega
    refine wp_seq (wp_seq (wp_rc ?_))
    refine wo_p (by simp [n3, g3, w1]; rfl) ?_
    refine wo_fn (lies_run t.k 0 (s.ms.length - 1) _) (by simp) (by simp) (by simp) ?_
    have c1 : (0 : Int) ≤ t.k ∧ (t.k : Int) ≤ s.ms.length - 1 := by omega
    have c7 : t.k ≤ 7 := by omega
    have c8 : (0 : Int) ≤ t.k ∧ (t.k : Int) < 8 := by omega
    refine wo_p (by simp [c1, c8, n7, g7, bits_get _ hk8, hfr]; rfl) ?_
    refine wo_m (by simp; rfl) ?_
    refine wp_condF rfl (wp_skip ?_)
    refine wp_seq (wp_r (by simp [n7, g7, bits_len, c8, c7, bits_set _ hk8, marks_succ hti]; rfl) ?_)
    have n31 : p3 ≠ h.next + 1 := by omega
    have n71 : p7 ≠ h.next + 1 := by omega
    have n9 : h.next ≠ p7 := by omega
    have n91 : h.next + 1 ≠ p7 := by omega
    refine wp_seq (wp_r (by simp [n3, n7, n31, n71, n9, n91, h37, g3, tk, M.v]; rfl) ?_)
    have w2 : IntKind.wrap .i64 (i + 1 : Int) = (i : Int) + 1 := by rw [wrap64] <;> omega
    have tn : ((i : Int) + 1).toNat = i + 1 := by omega
    have tail : ∀ (ov : Int) (ex : Env), ov = overAt hours ps i → WP globs prog none c40_l0.l.r.r.l.l.r.r.r.r.r
        ([(1, .slice 3 (ps.map T.v) tt), (2, .int .i64 hours), (3, .ptr p3 0), (7, .ptr p7 0), (8, .int .i64 i), (9, .ptr h.next 0), (10, .ptr (h.next + 1) 0), (11, .int .i64 ov), (12, .slice 3 (ps.map T.v) tt), (13, .int .i64 ps.length)] ++ (14, .int .i64 i) :: ex)
        (((((h.new (.cells [.int .i64 0, .int .i64 0, .int .i64 0])).set h.next (.cells [.int .i64 t.k, .int .i64 t.start, .int .i64 t.over])).set p7 (.cells (bits (marks ps (i + 1))))).new (.cells [.int .i64 0, .int .i64 0, .int .i64 0, .int .i64 0, .int .i64 0])).set (h.next + 1) (.cells [.int .i64 s.ms[t.k].start, .int .i64 s.ms[t.k].warm, .int .i64 s.ms[t.k].low, .int .i64 s.ms[t.k].high, .int .i64 s.ms[t.k].drift]))
        (blockQ 1 (thenQ globs prog none c40_l0.l.r.r.r (thenQ globs prog none c40_l0 fun x e' h' => x = .exit 0 ∧ alook 7 e' = some (.ptr p7 0) ∧ h'.get p7 = some (.cells (bits (marks ps ps.length))) ∧ B ≤ h'.low))) := by
      intro ov ex hov
      have o1 : -100000 ≤ ov ∧ ov ≤ 100000 := by
        rw [hov, overAt]
        split
        · rename_i u hu
          have := hp.bd u (List.mem_of_getElem? hu)
          exact ⟨this.2.2.1, this.2.2.2⟩
        · exact hh
      rw [← hov] at q3 tc
      have w3 : IntKind.wrap .i64 (t.over - t.start) = t.over - t.start := by rw [wrap64] <;> omega
      have w4 : IntKind.wrap .i64 (ov - t.start) = ov - t.start := by rw [wrap64] <;> omega
      have e1 : ¬ t.start < s.ms[t.k].start := by omega
      have e2 : ¬ t.over - t.start < s.ms[t.k].warm := by omega
      have e3 : ¬ ov ≤ t.over := by omega
      have e4 : ¬ s.ms[t.k].low < ov - t.start := by omega
      have fin : ∀ (ex : Env) h', B ≤ h'.low → p3 < h'.next → p7 < h'.next → B ≤ h'.next → h'.get p3 = some (.cells [.int .i64 s.hours, .int .i64 s.gap, .slice 5 (s.ms.map M.v) s.t]) → h'.get p7 = some (.cells (bits (marks ps (i + 1)))) →
          WP globs prog none c40_l0.l.r.r.r ([(1, .slice 3 (ps.map T.v) tt), (2, .int .i64 hours), (3, .ptr p3 0), (7, .ptr p7 0), (12, .slice 3 (ps.map T.v) tt), (13, .int .i64 ps.length)] ++ (14, .int .i64 i) :: ex) h'
            (thenQ globs prog none c40_l0 fun x e' h' => x = .exit 0 ∧ alook 7 e' = some (.ptr p7 0) ∧ h'.get p7 = some (.cells (bits (marks ps ps.length))) ∧ B ≤ h'.low) := by
        intro ex h' f1 f2 f3 f4 f5 f6
        refine wp_r (by simp [w2]; rfl) ?_
        exact isPlan_loop s hours ps tt B p3 p7 ⟨s1, s2, s3, s4, s5, s6, s7⟩ hp hh hlen k (i + 1) h' (by omega) f1 hB7 f2 f3 h37 f4 f5 f6
      by_cases hi0 : i = 0
      · have z : t.over = 0 := t0 hi0
        have bi : ((i : Int) == 0) = true := by simp [hi0]
        have bz : (t.over != 0) = false := by simp [z]
        have bg : ¬ 0 < i := by omega
        refine wp_seq (wp_seq (wp_rc ?_))
        refine wo_k 14 (by simp [bi, bz, n9, e1, n91]; rfl) ?_
        refine wo_k 10 (by simp [e2, w3, n9, n91]; rfl) ?_
        refine wo_k 7 (by simp [e3, n9]; rfl) ?_
        refine wo_k 9 (by simp [e4, w4, n9, n91]; rfl) ?_
        refine wo_p (by simp; rfl) ?_
        refine wo_m (by simp; rfl) ?_
        refine wp_condF rfl (wp_skip ?_)
        refine wp_seq (wp_r (by simp [bg]; rfl) ?_)
        refine wp_condF rfl (wp_skip ?_)
        exact fin [(115, .bool false)] _ (by simp; omega) (by simp; omega) (by simp; omega) (by simp; omega) (by simp [n3, n31, h37, g3]) (by simp [n7, n71, g7])
      · have bi : ((i : Int) == 0) = false := by simp; omega
        have bg : 0 < i := by omega
        have iw : IntKind.wrap .i64 (i - 1 : Int) = (i : Int) - 1 := by rw [wrap64] <;> omega
        have it : ((i : Int) - 1).toNat = i - 1 := by omega
        have i0 : (1 : Int) ≤ (i : Int) := by omega
        have hu : ps[i - 1]? = some ps[i - 1] := List.getElem?_eq_getElem (by omega)
        generalize hue : ps[i - 1] = u at hu
        have uk := (hp.turn (i - 1) u hu).k
        have ub := hp.bd u (by rw [← hue]; exact List.getElem_mem _)
        have hg := tg (i - 1) u uk tk (by omega) hu
        have d1 := offF_bd (m := s.ms[u.k]) (t := u) (hour := t.over) (s7 _ (List.getElem_mem _)) ub ⟨b3, b4⟩
        have d2 := offF_bd (m := s.ms[t.k]) (t := t) (hour := t.over) (s7 _ (List.getElem_mem _)) ⟨b1, b2, b3, b4⟩ ⟨b3, b4⟩
        have w5 : IntKind.wrap .i64 (offF s.ms[u.k] u t.over + offF s.ms[t.k] t t.over) = offF s.ms[u.k] u t.over + offF s.ms[t.k] t t.over := by rw [wrap64] <;> omega
        have e5 : ¬ s.gap < offF s.ms[u.k] u t.over + offF s.ms[t.k] t t.over := by omega
        refine wp_seq (wp_seq (wp_rc ?_))
        refine wo_k 14 (by simp [bi, n9, e1, n91]; rfl) ?_
        refine wo_k 10 (by simp [e2, w3, n9, n91]; rfl) ?_
        refine wo_k 7 (by simp [e3, n9]; rfl) ?_
        refine wo_k 9 (by simp [e4, w4, n9, n91]; rfl) ?_
        refine wo_p (by simp; rfl) ?_
        refine wo_m (by simp; rfl) ?_
        refine wp_condF rfl (wp_skip ?_)
        refine wp_seq (wp_rc ?_)
        refine wo_p (by simp [bg, n3, n31, h37, g3, iw, it, i0, hu, n9, T.v]; rfl) ?_
        refine wo_fn (off_run s u t.over _ uk (s7 _ (List.getElem_mem _)) ub ⟨b3, b4⟩) (by simp) (by simp [St.v, T.v]) (by simp) ?_
        refine wo_p (by simp [n3, n31, h37, g3, n9]; rfl) ?_
        refine wo_fn (off_run s t t.over _ tk (s7 _ (List.getElem_mem _)) ⟨b1, b2, b3, b4⟩ ⟨b3, b4⟩) (by simp) (by simp [St.v, T.v]) (by simp) ?_
        refine wo_p (by simp [n3, n31, h37, g3, n9, w5, e5]; rfl) ?_
        refine wo_m (by simp; rfl) ?_
        refine wp_condF rfl (wp_skip ?_)
        exact fin [(115, .bool false)] _ (by simp; omega) (by simp; omega) (by simp; omega) (by simp; omega) (by simp [n3, n31, h37, g3]) (by simp [n7, n71, g7])
    by_cases hl : i + 1 < ps.length
    · have hl' : (i : Int) + 1 < ps.length := by omega
      have p0 : (0 : Int) ≤ (i : Int) + 1 := by omega
      have hu : ps[i + 1]? = some ps[i + 1] := List.getElem?_eq_getElem hl
      refine wp_seq (wp_seq (wp_r (by simp [w2, hl']; rfl) ?_))
      refine wp_condT rfl (wp_r (by simp [w2, hu, T.v, tn, p0]; rfl) ?_)
      exact tail ps[i + 1].over [] (by simp [overAt, hu])
    · have hl' : ¬ (i : Int) + 1 < ps.length := by omega
      refine wp_seq (wp_seq (wp_r (by simp [w2, hl']; rfl) ?_))
      refine wp_condF rfl (wp_skip ?_)
      exact tail hours [(47, .bool false)] (by simp [overAt, List.getElem?_eq_none (Nat.le_of_not_lt hl)])

theorem marks_some {ps : List T} (h : ps ≠ []) (s : St) (hours : Int) (hs : s.ok) (hp : PlanOk s hours ps) : eqL (bits (marks ps ps.length)) (bits fun _ => false) = some false := by
  obtain ⟨s1, s2, s3, s4, s5, s6, s7⟩ := hs
  cases ps with
  | nil => exact absurd rfl h
  | cons t ps =>
    have hk := (hp.turn 0 t rfl).k
    have hm : marks (t :: ps) (t :: ps).length t.k = true := by simp [marks]
    generalize marks (t :: ps) (t :: ps).length = b at hm
    have hk8 : t.k < 8 := by omega
    have : ∀ (l : List Nat), t.k ∈ l → eqL (l.map fun k => V.bool (b k)) (l.map fun _ => V.bool false) = some false := by
      intro l
      induction l with
      | nil => intro h; cases h
      | cons x l ih =>
        intro hx
        simp only [List.map_cons, eqL, eq1]
        cases hb : b x with
        | true => rfl
        | false =>
          refine ih ?_
          rcases List.mem_cons.1 hx with rfl | h'
          · rw [hm] at hb; cases hb
          · exact h'
    exact this (List.range 8) (by simpa using hk8)

theorem isPlan_run (s : St) (hours : Int) (ps : List T) (tt : Tip) (h : H) (hs : s.ok) (hp : PlanOk s hours ps) (hh : -100000 ≤ hours ∧ hours ≤ 100000) (hlen : ps.length ≤ 1000) :
    WC globs prog 40 [s.v, .slice 3 (ps.map T.v) tt, .int .i64 hours] h fun v h' p => v = .bool true ∧ h' = h ∧ p = true := by
  refine wc_pure (fn := c40) rfl rfl ?_
  refine wp_seq (wp_r (by simp [St.v]; rfl) ?_)
  refine wp_seq (wp_r (by simp; rfl) ?_)
  refine wp_seq (wp_seq (wp_r (by simp; rfl) ?_))
  have m0 : marks ps 0 = fun _ => false := by funext k; simp [marks]
  refine wp_block ((isPlan_loop s hours ps tt h.next h.next (h.next + 1) hs hp hh hlen ps.length 0 _ (by omega) (by simp) (by simp) (by simp; omega) (by simp) (by simp) (by simp; omega) (by simp) (by simp [m0, bits_zero])).mono ?_)
  rintro x e' h' ⟨rfl, h3, g7, hB⟩
  have he := marks_some hp.ne s hours hs hp
  rw [bits_zero] at he
  have hb8 := bits_len (marks ps ps.length)
  have hk : kindsOk [none, none, none, none, none, none, none, none] (bits (marks ps ps.length)) = true := rfl
  generalize bits (marks ps ps.length) = bs at *
  refine wp_seq (wp_r (by simp [h3, g7, hb8, List.take_of_length_le, eqv, he, keyOk, hk]; rfl) ?_)
  refine wp_ret ?_
  simp [c40, hB]

theorem IsPlan_run (s : St) (ps : List T) (tt : Tip) (h : H) (hs : s.ok) (hp : PlanOk s s.hours ps) (hlen : ps.length ≤ 1000) :
    WC globs prog 9 [s.v, .slice 3 (ps.map T.v) tt] h fun v h' p => v = .tuple [.bool true, .int .i64 0] ∧ h' = h ∧ p = true := by
  have hs' := hs
  obtain ⟨s1, s2, s3, s4, s5, s6, s7⟩ := hs'
  refine wc_pure (fn := c9) rfl rfl ?_
  refine wp_seq (wp_r (by simp [St.v]; rfl) ?_)
  refine wp_seq (wp_seq (wp_rc ?_))
  refine wo_p (by simp; rfl) ?_
  refine wo_fn (check_run s _ (by omega)) (by simp) (by simp [St.v]) (by simp) ?_
  refine wo_p (by simp [hs]; rfl) ?_
  refine wo_m (by simp; rfl) ?_
  refine wp_seq (wp_r (by simp; rfl) ?_)
  refine wp_condF rfl (wp_skip ?_)
  refine wp_seq (wp_rc ?_)
  refine wo_p (by simp; rfl) ?_
  refine wo_fn (isPlan_run s s.hours ps tt _ hs hp (by omega) hlen) (by simp) (by simp [St.v]) (by simp) ?_
  refine wo_p (by simp; rfl) ?_
  refine wo_m (by simp; rfl) ?_
  refine wp_ret ?_
  simp [c9]
end Go.Vi.Tryd
