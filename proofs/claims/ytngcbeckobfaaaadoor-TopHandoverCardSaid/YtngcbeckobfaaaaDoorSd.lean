/- Spare's maps of sets; the machines that can follow. No statement of a claim stands here. -/
import Derived.Test.YtngcbeckobfaaaaDoorSc
set_option linter.unusedSimpArgs false
set_option linter.unusedVariables false
namespace Go.Vi.Tryd
open Go Go.Vi
attribute [local simp] reg pre guarded isCall ev again Env.put alook bindArgs Opd.val ar_add ar_sub ar_mul ar_quo ar_rem ar_eql ar_neq ar_lss ar_leq ar_gtr ar_geq Env.mask List.filterMap ressOf resOf pack V.clasp sealL V.top topL get_new get_set next_new next_set low_new low_set low_mk next_mk get_mk vals sub V.isAgg V.cells V.cell1 setRange bnd ival bval fillIn minmax Nat.ne_of_lt ne2 ne3 ne4 ne5 ne6

def key (s : Nat) : V := .agg [.int .i64 s, .int .i64 (cnt s)]
theorem eqv_key (s t : Nat) : eqv (key s) (key t) = some (decide (s = t)) := by
  by_cases h : s = t
  · subst h; simp [key, eqv, eqL, eq1]
  · have : ((s : Int) == (t : Int)) = false := by simp; omega
    simp [key, eqv, eqL, eq1, this, h]
def keysOk (es : List (V × V)) : Prop := ∀ x ∈ es, ∃ s n, x = (key s, V.int .i64 n)
theorem mlook_cons (s t : Nat) (v : V) (es : List (V × V)) : mlook (key t) ((key s, v) :: es) = if t = s then some (some v) else mlook (key t) es := by
  simp only [mlook, eqv_key]
  by_cases h : t = s <;> simp [h]
theorem mset_ok (s : Nat) (n : Int) : ∀ (es : List (V × V)), keysOk es → ∃ es', mset (key s) (.int .i64 n) es = some es' ∧ keysOk es' ∧ ∀ t, mlook (key t) es' = if t = s then some (some (.int .i64 n)) else mlook (key t) es
  | [], _ => ⟨[(key s, .int .i64 n)], rfl, fun x hx => by rw [List.mem_singleton.1 hx]; exact ⟨s, n, rfl⟩, fun t => mlook_cons ..⟩
  | x :: es, hk => by
    obtain ⟨u, m, rfl⟩ := hk x (List.mem_cons_self ..)
    have hk' : keysOk es := fun y hy => hk y (List.mem_cons_of_mem _ hy)
    by_cases h : s = u
    · subst h
      refine ⟨(key s, .int .i64 n) :: es, by simp [mset, eqv_key], ?_, fun t => ?_⟩
      · intro y hy
        rcases List.mem_cons.1 hy with rfl | hy
        · exact ⟨s, n, rfl⟩
        · exact hk' y hy
      · rw [mlook_cons, mlook_cons]; split <;> rfl
    · obtain ⟨es', h1, h2, h3⟩ := mset_ok s n es hk'
      refine ⟨(key u, .int .i64 m) :: es', by simp [mset, eqv_key, h, h1], ?_, fun t => ?_⟩
      · intro y hy
        rcases List.mem_cons.1 hy with rfl | hy
        · exact ⟨u, m, rfl⟩
        · exact h2 y hy
      · rw [mlook_cons, mlook_cons, h3]
        by_cases h4 : t = u
        · subst h4
          rw [if_pos rfl, if_pos rfl, if_neg (fun e => h e.symm)]
        · rw [if_neg h4, if_neg h4]
/-- the map holds so much of each set -/
structure MapRep (es : List (V × V)) (f : Nat → Option Int) : Prop where
  keys : keysOk es
  look : ∀ s, mlook (key s) es = some ((f s).map (V.int .i64 ·))
theorem MapRep.empty : MapRep [] fun _ => none := ⟨(fun _ h => by cases h), fun _ => rfl⟩
theorem MapRep.set {es : List (V × V)} {f : Nat → Option Int} (h : MapRep es f) (s : Nat) (n : Int) : ∃ es', mset (key s) (.int .i64 n) es = some es' ∧ MapRep es' fun t => if t = s then some n else f t := by
  obtain ⟨es', h1, h2, h3⟩ := mset_ok s n es h.keys
  refine ⟨es', h1, h2, fun t => ?_⟩
  rw [h3]
  by_cases ht : t = s
  · simp [ht]
  · simp [ht, h.look]
theorem keyOk_key (s : Nat) : keyOk true [some .i64, some .i64] (key s) = true := rfl

/-- the store in the calculation -/
def stV (s : St) (F L : Nat) : V := .agg [.int .i64 s.hours, .int .i64 s.gap, .slice 5 (s.ms.map M.v) s.t, .map F, .map L]
def stC (s : St) (F L : Nat) : List V := [.int .i64 s.hours, .int .i64 s.gap, .slice 5 (s.ms.map M.v) s.t, .map F, .map L]

theorem follow_run (s : St) (F L : Nat) (set hour way : Int) (h : H) : WC globs prog 67 [stV s F L, .int .i64 set, .int .i64 hour, .int .i64 way] h fun v h' _ =>
    v = .func 106 [] [.ptr h.next 0, .ptr (h.next + 1) 0, .ptr (h.next + 2) 0, .ptr (h.next + 3) 0] ∧ h'.next = h.next + 4 ∧ (h'.low = h.low ∨ h'.low = min h.low h.next) ∧
    h'.get h.next = some (.cells (stC s F L)) ∧ h'.get (h.next + 1) = some (.cells [.int .i64 set]) ∧ h'.get (h.next + 2) = some (.cells [.int .i64 hour]) ∧ h'.get (h.next + 3) = some (.cells [.int .i64 way]) ∧
    ∀ i, i < h.next → h'.get i = h.get i := by
  refine wc_eff (fn := c67) rfl rfl ?_
  refine wp_seq (wp_r (by simp [stV]; rfl) ?_)
  refine wp_seq (wp_r (by simp; rfl) ?_)
  refine wp_ret ?_
  refine ⟨.inr rfl, [.func 106 [] [.ptr h.next 0, .ptr (h.next + 1) 0, .ptr (h.next + 2) 0, .ptr (h.next + 3) 0]], by simp [c67], by simp; omega, .inr ?_, ?_⟩
  · intro i hi
    have n0 : i ≠ h.next := by omega
    have n1 : i ≠ h.next + 1 := by omega
    have n2 : i ≠ h.next + 1 + 1 := by omega
    have n3 : i ≠ h.next + 1 + 1 + 1 := by omega
    simp [n0, n1, n2, n3]
  · intro h2 p q1 q2 q3 q4
    rcases q4 with q4 | ⟨q4, q5⟩
    · simp at q4; omega
    · refine ⟨rfl, by rw [q4]; simp, by simpa using q2, by rw [q5]; simp [stC], by rw [q5]; simp, by rw [q5]; simp, by rw [q5]; simp, fun i hi => ?_⟩
      rw [q5]
      have n0 : i ≠ h.next := by omega
      have n1 : i ≠ h.next + 1 := by omega
      have n2 : i ≠ h.next + 1 + 1 := by omega
      have n3 : i ≠ h.next + 1 + 1 + 1 := by omega
      simp [n0, n1, n2, n3]

theorem glob2 : alook 2 globs = some (V.agg [.func 33 [] [], .func 68 [] []]) := rfl
/-- the rounds over the machines -/
def fEnv (s : St) (l a1 a2 a3 a4 i : Nat) : Env := [(0, .yield l), (1, .ptr a1 0), (2, .ptr a2 0), (3, .ptr a3 0), (4, .ptr a4 0), (10, .slice 5 (s.ms.map M.v) s.t), (11, .int .i64 s.ms.length), (12, .int .i64 i)]
structure FHeap (s : St) (F L m a1 a2 a3 a4 : Nat) (hour way : Int) (h : H) : Prop where
  l1 : a1 < h.next
  l2 : a2 < h.next
  l3 : a3 < h.next
  l4 : a4 < h.next
  g1 : h.get a1 = some (.cells (stC s F L))
  g2 : h.get a2 = some (.cells [.int .i64 ((2 ^ m : Nat) : Int)])
  g3 : h.get a3 = some (.cells [.int .i64 hour])
  g4 : h.get a4 = some (.cells [.int .i64 way])
theorem FHeap.eff {s : St} {F L m a1 a2 a3 a4 : Nat} {hour way : Int} {h h' : H} (a : FHeap s F L m a1 a2 a3 a4 hour way h) (e : Eff h h') : FHeap s F L m a1 a2 a3 a4 hour way h' :=
  ⟨Nat.lt_of_lt_of_le a.l1 e.next, Nat.lt_of_lt_of_le a.l2 e.next, Nat.lt_of_lt_of_le a.l3 e.next, Nat.lt_of_lt_of_le a.l4 e.next,
    (e.get _ a.l1).trans a.g1, (e.get _ a.l2).trans a.g2, (e.get _ a.l3).trans a.g3, (e.get _ a.l4).trans a.g4⟩

/-- a machine that does not follow -/
theorem fskip0 (s : St) (F L m a1 a2 a3 a4 l i : Nat) (hour : Int) (h : H) (Q : X → Env → H → Prop) (hs : s.ok) (hm8 : m < 8) (hh : -100000 ≤ hour ∧ hour ≤ 1000000) (fh : FHeap s F L m a1 a2 a3 a4 hour 0 h) (hi : i < s.ms.length)
    (hc : i ≠ m ∨ hour < s.ms[i].start + s.ms[i].warm ∨ (s.ms[i]).stint s.gap = 0) (hQ : ∀ h', Eff h h' → h'.low ≤ h.low → WP globs prog none c106_l0 (fEnv s l a1 a2 a3 a4 (i + 1)) h' Q) : WP globs prog none c106_l0 (fEnv s l a1 a2 a3 a4 i) h Q := by
  obtain ⟨l1, l2, l3, l4, g1, g2, g3, g4⟩ := fh
  obtain ⟨s1, s2, s3, s4, s5, s6, s7⟩ := hs
  have hgap : 0 ≤ s.gap ∧ s.gap ≤ 1000 := ⟨s3, s4⟩
  have hm := s7 s.ms[i] (List.getElem_mem _)
  have hm' := hm
  obtain ⟨m1, m2, m3, m4, m5, m6, m7, m8, m9⟩ := hm'
  have n1 : a1 ≠ h.next := by omega
  have n2 : a2 ≠ h.next := by omega
  have n3 : a3 ≠ h.next := by omega
  have n4 : a4 ≠ h.next := by omega
  have tail : ∀ e' h', Eff h h' → h'.low ≤ h.low → (∀ j ∈ ([0, 1, 2, 3, 4, 10, 11, 12] : List Nat), alook j e' = alook j (fEnv s l a1 a2 a3 a4 i)) → WP globs prog none c106_l0.l.r.r.r e' h' (thenQ globs prog none c106_l0 Q) := by
    intro e' h' he hd hj
    have w1 : IntKind.wrap .i64 (i + 1 : Int) = ((i + 1 : Nat) : Int) := by rw [wrap64] <;> omega
    have j0 := hj 0 (by simp); have j1 := hj 1 (by simp); have j2 := hj 2 (by simp); have j3 := hj 3 (by simp); have j4 := hj 4 (by simp); have j10 := hj 10 (by simp); have j11 := hj 11 (by simp); have j12 := hj 12 (by simp)
    simp only [fEnv] at j0 j1 j2 j3 j4 j10 j11 j12
    refine wp_r (by simp [j0, j1, j2, j3, j4, j10, j11, j12, w1, -Int.natCast_add]; rfl) ?_
    exact hQ h' he hd
  refine wp_loop (wp_seq (wp_r (by simp [fEnv, hi]; rfl) ?_))
  refine wp_seq (wp_condT rfl (wp_skip ?_))
  refine wp_seq (wp_block (wp_seq (wp_r (by simp [hi, M.v]; rfl) ?_)))
  have hshr := ar_shr' (a := 2 ^ m) (k := i) (by omega)
  have hand := ar_bit (a := 2 ^ m) i (by
    have : 2 ^ m ≤ 2 ^ 8 := Nat.pow_le_pow_right (by omega) (by omega)
    omega)
  have hE : ∀ o, Eff h ((h.new (.cells [.int .i64 0, .int .i64 0, .int .i64 0, .int .i64 0, .int .i64 0])).set h.next o) := fun o => Eff.set Eff.new (Nat.le_refl _)
  generalize hpow : (2 ^ m : Nat) = pw at *
  by_cases him : i = m
  · have hb : pw.testBit i = true := by rw [← hpow, him, Nat.testBit_two_pow_self]
    rw [hb] at hand
    have w2 : IntKind.wrap .i64 (s.ms[i].start + s.ms[i].warm) = s.ms[i].start + s.ms[i].warm := by rw [wrap64] <;> omega
    refine wp_seq (wp_seq (wp_rc ?_))
    refine wo_k 13 (by simp [n2, n3, g2, g3, hshr, hand, w2]; rfl) ?_
    by_cases c2 : hour < s.ms[i].start + s.ms[i].warm
    · refine wo_p (by simp [c2]; rfl) ?_
      refine wo_m (by simp; rfl) ?_
      refine wp_condT rfl (wp_exit ?_)
      exact tail _ _ (hE _) (by simp; omega) (by simp [fEnv])
    · refine wo_p (by simp [c2, n1, n4, g1, g4, glob2, stC]; rfl) ?_
      refine wo_fn (of_run s i _ hi) (by simp) (by simp [St.v]) (by simp [n1, n4, g1, g4, V.same, sameL, stC]) ?_
      refine wo_p (by simp; rfl) ?_
      refine wo_fv (stint_run s.ms[i] s.gap _ hm hgap) (by simp) (by simp) (by simp [mach]) (by simp) ?_
      have c3 : (s.ms[i]).stint s.gap = 0 := by
        rcases hc with h | h | h
        · exact absurd him h
        · exact absurd h c2
        · exact h
      refine wo_p (by simp [c3]; rfl) ?_
      refine wo_m (by simp; rfl) ?_
      refine wp_condT rfl (wp_exit ?_)
      exact tail _ _ (hE _) (by simp; omega) (by simp [fEnv])
  · have hb : pw.testBit i = false := by rw [← hpow, Nat.testBit_two_pow]; simp; omega
    rw [hb] at hand
    refine wp_seq (wp_seq (wp_rc ?_))
    refine wo_p (by simp [n2, n3, g2, g3, hshr, hand]; rfl) ?_
    refine wo_m (by simp; rfl) ?_
    refine wp_condT rfl (wp_exit ?_)
    exact tail _ _ (hE _) (by simp; omega) (by simp [fEnv])

/-- a machine that does not follow -/
theorem fskip1 (s : St) (F L m a1 a2 a3 a4 l i : Nat) (hour : Int) (h : H) (Q : X → Env → H → Prop) (hs : s.ok) (hm8 : m < 8) (hh : -100000 ≤ hour ∧ hour ≤ 1000000) (fh : FHeap s F L m a1 a2 a3 a4 hour 1 h) (hi : i < s.ms.length)
    (hc : i ≠ m ∨ hour < s.ms[i].start + s.ms[i].warm ∨ (s.ms[i]).last = 0) (hQ : ∀ h', Eff h h' → h'.low ≤ h.low → WP globs prog none c106_l0 (fEnv s l a1 a2 a3 a4 (i + 1)) h' Q) : WP globs prog none c106_l0 (fEnv s l a1 a2 a3 a4 i) h Q := by
  obtain ⟨l1, l2, l3, l4, g1, g2, g3, g4⟩ := fh
  obtain ⟨s1, s2, s3, s4, s5, s6, s7⟩ := hs
  have hgap : 0 ≤ s.gap ∧ s.gap ≤ 1000 := ⟨s3, s4⟩
  have hm := s7 s.ms[i] (List.getElem_mem _)
  have hm' := hm
  obtain ⟨m1, m2, m3, m4, m5, m6, m7, m8, m9⟩ := hm'
  have n1 : a1 ≠ h.next := by omega
  have n2 : a2 ≠ h.next := by omega
  have n3 : a3 ≠ h.next := by omega
  have n4 : a4 ≠ h.next := by omega
  have tail : ∀ e' h', Eff h h' → h'.low ≤ h.low → (∀ j ∈ ([0, 1, 2, 3, 4, 10, 11, 12] : List Nat), alook j e' = alook j (fEnv s l a1 a2 a3 a4 i)) → WP globs prog none c106_l0.l.r.r.r e' h' (thenQ globs prog none c106_l0 Q) := by
    intro e' h' he hd hj
    have w1 : IntKind.wrap .i64 (i + 1 : Int) = ((i + 1 : Nat) : Int) := by rw [wrap64] <;> omega
    have j0 := hj 0 (by simp); have j1 := hj 1 (by simp); have j2 := hj 2 (by simp); have j3 := hj 3 (by simp); have j4 := hj 4 (by simp); have j10 := hj 10 (by simp); have j11 := hj 11 (by simp); have j12 := hj 12 (by simp)
    simp only [fEnv] at j0 j1 j2 j3 j4 j10 j11 j12
    refine wp_r (by simp [j0, j1, j2, j3, j4, j10, j11, j12, w1, -Int.natCast_add]; rfl) ?_
    exact hQ h' he hd
  refine wp_loop (wp_seq (wp_r (by simp [fEnv, hi]; rfl) ?_))
  refine wp_seq (wp_condT rfl (wp_skip ?_))
  refine wp_seq (wp_block (wp_seq (wp_r (by simp [hi, M.v]; rfl) ?_)))
  have hshr := ar_shr' (a := 2 ^ m) (k := i) (by omega)
  have hand := ar_bit (a := 2 ^ m) i (by
    have : 2 ^ m ≤ 2 ^ 8 := Nat.pow_le_pow_right (by omega) (by omega)
    omega)
  have hE : ∀ o, Eff h ((h.new (.cells [.int .i64 0, .int .i64 0, .int .i64 0, .int .i64 0, .int .i64 0])).set h.next o) := fun o => Eff.set Eff.new (Nat.le_refl _)
  generalize hpow : (2 ^ m : Nat) = pw at *
  by_cases him : i = m
  · have hb : pw.testBit i = true := by rw [← hpow, him, Nat.testBit_two_pow_self]
    rw [hb] at hand
    have w2 : IntKind.wrap .i64 (s.ms[i].start + s.ms[i].warm) = s.ms[i].start + s.ms[i].warm := by rw [wrap64] <;> omega
    refine wp_seq (wp_seq (wp_rc ?_))
    refine wo_k 13 (by simp [n2, n3, g2, g3, hshr, hand, w2]; rfl) ?_
    by_cases c2 : hour < s.ms[i].start + s.ms[i].warm
    · refine wo_p (by simp [c2]; rfl) ?_
      refine wo_m (by simp; rfl) ?_
      refine wp_condT rfl (wp_exit ?_)
      exact tail _ _ (hE _) (by simp; omega) (by simp [fEnv])
    · refine wo_p (by simp [c2, n1, n4, g1, g4, glob2, stC]; rfl) ?_
      refine wo_fn (of_run s i _ hi) (by simp) (by simp [St.v]) (by simp [n1, n4, g1, g4, V.same, sameL, stC]) ?_
      refine wo_p (by simp; rfl) ?_
      refine wo_fv (last_run s.ms[i] s.gap _ hm) (by simp) (by simp) (by simp [mach]) (by simp) ?_
      have c3 : (s.ms[i]).last = 0 := by
        rcases hc with h | h | h
        · exact absurd him h
        · exact absurd h c2
        · exact h
      refine wo_p (by simp [c3]; rfl) ?_
      refine wo_m (by simp; rfl) ?_
      refine wp_condT rfl (wp_exit ?_)
      exact tail _ _ (hE _) (by simp; omega) (by simp [fEnv])
  · have hb : pw.testBit i = false := by rw [← hpow, Nat.testBit_two_pow]; simp; omega
    rw [hb] at hand
    refine wp_seq (wp_seq (wp_rc ?_))
    refine wo_p (by simp [n2, n3, g2, g3, hshr, hand]; rfl) ?_
    refine wo_m (by simp; rfl) ?_
    refine wp_condT rfl (wp_exit ?_)
    exact tail _ _ (hE _) (by simp; omega) (by simp [fEnv])

theorem last_bd {m : M} (hm : m.ok) : 0 ≤ m.last ∧ m.last ≤ 500 := by
  obtain ⟨m1, m2, m3, m4, m5, m6, m7, m8, m9⟩ := hm
  unfold M.last; omega
theorem stint_bd {m : M} {g : Int} (hm : m.ok) (hg : 0 ≤ g ∧ g ≤ 1000) : 0 ≤ m.stint g ∧ m.stint g ≤ m.last := by
  have := last_bd hm
  obtain ⟨m1, m2, m3, m4, m5, m6, m7, m8, m9⟩ := hm
  have h1 : 0 ≤ g.tdiv m.drift := Int.tdiv_nonneg hg.1 m8
  unfold M.stint; split <;> omega

/-- the machine that follows -/
theorem fyes0 (s : St) (F L m a1 a2 a3 a4 l : Nat) (hour : Int) (h : H) (R : H → Prop) (Q : X → Env → H → Prop) (hs : s.ok) (hm8 : m < 8) (hh : -100000 ≤ hour ∧ hour ≤ 1000000) (fh : FHeap s F L m a1 a2 a3 a4 hour 0 h) (hi : m < s.ms.length)
    (hc : s.ms[m].start + s.ms[m].warm ≤ hour) (hz : (s.ms[m]).stint s.gap ≠ 0) (hy : ∀ h1, Eff h h1 → WY globs prog l [.int .i64 m, .int .i64 (hour + (s.ms[m]).stint s.gap)] h1 fun v h2 _ => v = .bool true ∧ R h2)
    (hQ : ∀ h', R h' → WP globs prog none c106_l0 (fEnv s l a1 a2 a3 a4 (m + 1)) h' Q) : WP globs prog none c106_l0 (fEnv s l a1 a2 a3 a4 m) h Q := by
  obtain ⟨l1, l2, l3, l4, g1, g2, g3, g4⟩ := fh
  obtain ⟨s1, s2, s3, s4, s5, s6, s7⟩ := hs
  have hgap : 0 ≤ s.gap ∧ s.gap ≤ 1000 := ⟨s3, s4⟩
  have hm := s7 s.ms[m] (List.getElem_mem _)
  have q1 := stint_bd (g := s.gap) hm hgap
  have q2 := last_bd hm
  have hm' := hm
  obtain ⟨m1, m2, m3, m4, m5, m6, m7, m8, m9⟩ := hm'
  have n1 : a1 ≠ h.next := by omega
  have n2 : a2 ≠ h.next := by omega
  have n3 : a3 ≠ h.next := by omega
  have n4 : a4 ≠ h.next := by omega
  refine wp_loop (wp_seq (wp_r (by simp [fEnv, hi]; rfl) ?_))
  refine wp_seq (wp_condT rfl (wp_skip ?_))
  refine wp_seq (wp_block (wp_seq (wp_r (by simp [hi, M.v]; rfl) ?_)))
  have hshr := ar_shr' (a := 2 ^ m) (k := m) (by omega)
  have hand := ar_bit (a := 2 ^ m) m (by
    have : 2 ^ m ≤ 2 ^ 8 := Nat.pow_le_pow_right (by omega) (by omega)
    omega)
  rw [Nat.testBit_two_pow_self] at hand
  have hE : ∀ o, Eff h ((h.new (.cells [.int .i64 0, .int .i64 0, .int .i64 0, .int .i64 0, .int .i64 0])).set h.next o) := fun o => Eff.set Eff.new (Nat.le_refl _)
  generalize hpow : (2 ^ m : Nat) = pw at *
  have w2 : IntKind.wrap .i64 (s.ms[m].start + s.ms[m].warm) = s.ms[m].start + s.ms[m].warm := by rw [wrap64] <;> omega
  have w3 : IntKind.wrap .i64 (hour + (s.ms[m]).stint s.gap) = hour + (s.ms[m]).stint s.gap := by rw [wrap64] <;> omega
  have c2 : ¬ hour < s.ms[m].start + s.ms[m].warm := by omega
  have c3 : ((s.ms[m]).stint s.gap == 0) = false := by simp [hz]
  refine wp_seq (wp_seq (wp_rc ?_))
  refine wo_k 13 (by simp [n2, n3, g2, g3, hshr, hand, w2, c2]; rfl) ?_
  refine wo_p (by simp [c2, n1, n4, g1, g4, glob2, stC]; rfl) ?_
  refine wo_fn (of_run s m _ hi) (by simp) (by simp [St.v]) (by simp [n1, n4, g1, g4, V.same, sameL, stC]) ?_
  refine wo_p (by simp; rfl) ?_
  refine wo_fv (stint_run s.ms[m] s.gap _ hm hgap) (by simp) (by simp) (by simp [mach]) (by simp) ?_
  refine wo_p (by simp [c3]; rfl) ?_
  refine wo_m (by simp; rfl) ?_
  refine wp_condF rfl (wp_skip ?_)
  refine wp_seq (wp_rc ?_)
  refine wo_p (by simp [n1, n3, n4, g1, g3, g4, glob2, stC]; rfl) ?_
  refine wo_fn (of_run s m _ hi) (by simp) (by simp [St.v]) (by simp [n1, n3, n4, g1, g3, g4, V.same, sameL, stC]) ?_
  refine wo_p (by simp; rfl) ?_
  refine wo_fv (stint_run s.ms[m] s.gap _ hm hgap) (by simp) (by simp) (by simp [mach]) (by simp [n3, g3, V.same]) ?_
  refine wo_p (by simp [w3]; rfl) ?_
  obtain ⟨v, h2, p, hr, rfl, hR⟩ := hy _ (hE _)
  refine wo_yield (l := l) (args := [.int .i64 m, .int .i64 (hour + (s.ms[m]).stint s.gap)]) (by simp) (by simp) (by simp) ⟨_, _, _, hr, by simp, ?_⟩
  refine wo_p (by simp; rfl) ?_
  refine wo_m (by simp; rfl) ?_
  refine wp_condF rfl (wp_skip ?_)
  have w1 : IntKind.wrap .i64 (m + 1 : Int) = ((m + 1 : Nat) : Int) := by rw [wrap64] <;> omega
  refine wp_r (by simp [w1, -Int.natCast_add]; rfl) ?_
  exact hQ h2 hR

/-- the machine that follows -/
theorem fyes1 (s : St) (F L m a1 a2 a3 a4 l : Nat) (hour : Int) (h : H) (R : H → Prop) (Q : X → Env → H → Prop) (hs : s.ok) (hm8 : m < 8) (hh : -100000 ≤ hour ∧ hour ≤ 1000000) (fh : FHeap s F L m a1 a2 a3 a4 hour 1 h) (hi : m < s.ms.length)
    (hc : s.ms[m].start + s.ms[m].warm ≤ hour) (hz : (s.ms[m]).last ≠ 0) (hy : ∀ h1, Eff h h1 → WY globs prog l [.int .i64 m, .int .i64 (hour + (s.ms[m]).last)] h1 fun v h2 _ => v = .bool true ∧ R h2)
    (hQ : ∀ h', R h' → WP globs prog none c106_l0 (fEnv s l a1 a2 a3 a4 (m + 1)) h' Q) : WP globs prog none c106_l0 (fEnv s l a1 a2 a3 a4 m) h Q := by
  obtain ⟨l1, l2, l3, l4, g1, g2, g3, g4⟩ := fh
  obtain ⟨s1, s2, s3, s4, s5, s6, s7⟩ := hs
  have hgap : 0 ≤ s.gap ∧ s.gap ≤ 1000 := ⟨s3, s4⟩
  have hm := s7 s.ms[m] (List.getElem_mem _)
  have q1 := last_bd hm
  have hm' := hm
  obtain ⟨m1, m2, m3, m4, m5, m6, m7, m8, m9⟩ := hm'
  have n1 : a1 ≠ h.next := by omega
  have n2 : a2 ≠ h.next := by omega
  have n3 : a3 ≠ h.next := by omega
  have n4 : a4 ≠ h.next := by omega
  refine wp_loop (wp_seq (wp_r (by simp [fEnv, hi]; rfl) ?_))
  refine wp_seq (wp_condT rfl (wp_skip ?_))
  refine wp_seq (wp_block (wp_seq (wp_r (by simp [hi, M.v]; rfl) ?_)))
  have hshr := ar_shr' (a := 2 ^ m) (k := m) (by omega)
  have hand := ar_bit (a := 2 ^ m) m (by
    have : 2 ^ m ≤ 2 ^ 8 := Nat.pow_le_pow_right (by omega) (by omega)
    omega)
  rw [Nat.testBit_two_pow_self] at hand
  have hE : ∀ o, Eff h ((h.new (.cells [.int .i64 0, .int .i64 0, .int .i64 0, .int .i64 0, .int .i64 0])).set h.next o) := fun o => Eff.set Eff.new (Nat.le_refl _)
  generalize hpow : (2 ^ m : Nat) = pw at *
  have w2 : IntKind.wrap .i64 (s.ms[m].start + s.ms[m].warm) = s.ms[m].start + s.ms[m].warm := by rw [wrap64] <;> omega
  have w3 : IntKind.wrap .i64 (hour + (s.ms[m]).last) = hour + (s.ms[m]).last := by rw [wrap64] <;> omega
  have c2 : ¬ hour < s.ms[m].start + s.ms[m].warm := by omega
  have c3 : ((s.ms[m]).last == 0) = false := by simp [hz]
  refine wp_seq (wp_seq (wp_rc ?_))
  refine wo_k 13 (by simp [n2, n3, g2, g3, hshr, hand, w2, c2]; rfl) ?_
  refine wo_p (by simp [c2, n1, n4, g1, g4, glob2, stC]; rfl) ?_
  refine wo_fn (of_run s m _ hi) (by simp) (by simp [St.v]) (by simp [n1, n4, g1, g4, V.same, sameL, stC]) ?_
  refine wo_p (by simp; rfl) ?_
  refine wo_fv (last_run s.ms[m] s.gap _ hm) (by simp) (by simp) (by simp [mach]) (by simp) ?_
  refine wo_p (by simp [c3]; rfl) ?_
  refine wo_m (by simp; rfl) ?_
  refine wp_condF rfl (wp_skip ?_)
  refine wp_seq (wp_rc ?_)
  refine wo_p (by simp [n1, n3, n4, g1, g3, g4, glob2, stC]; rfl) ?_
  refine wo_fn (of_run s m _ hi) (by simp) (by simp [St.v]) (by simp [n1, n3, n4, g1, g3, g4, V.same, sameL, stC]) ?_
  refine wo_p (by simp; rfl) ?_
  refine wo_fv (last_run s.ms[m] s.gap _ hm) (by simp) (by simp) (by simp [mach]) (by simp [n3, g3, V.same]) ?_
  refine wo_p (by simp [w3]; rfl) ?_
  obtain ⟨v, h2, p, hr, rfl, hR⟩ := hy _ (hE _)
  refine wo_yield (l := l) (args := [.int .i64 m, .int .i64 (hour + (s.ms[m]).last)]) (by simp) (by simp) (by simp) ⟨_, _, _, hr, by simp, ?_⟩
  refine wo_p (by simp; rfl) ?_
  refine wo_m (by simp; rfl) ?_
  refine wp_condF rfl (wp_skip ?_)
  have w1 : IntKind.wrap .i64 (m + 1 : Int) = ((m + 1 : Nat) : Int) := by rw [wrap64] <;> omega
  refine wp_r (by simp [w1, -Int.natCast_add]; rfl) ?_
  exact hQ h2 hR

theorem fend0 (s : St) (F L m a1 a2 a3 a4 l : Nat) (hour : Int) (hs : s.ok) (hm8 : m < 8) (hh : -100000 ≤ hour ∧ hour ≤ 1000000) : ∀ (k i : Nat) (h : H), i + k = s.ms.length → FHeap s F L m a1 a2 a3 a4 hour 0 h →
    (∀ j (hj : j < s.ms.length), i ≤ j → j ≠ m ∨ hour < s.ms[j].start + s.ms[j].warm ∨ (s.ms[j]).stint s.gap = 0) → WP globs prog none c106_l0 (fEnv s l a1 a2 a3 a4 i) h fun x _ h' => x = .exit 0 ∧ Eff h h' ∧ h'.low ≤ h.low
  | 0, i, h, hi, fh, hc => by
    have : i = s.ms.length := by omega
    subst this
    refine wp_loop (wp_seq (wp_r (by simp [fEnv]; rfl) ?_))
    refine wp_seq (wp_condF rfl (wp_exit ?_))
    exact ⟨rfl, Eff.refl, Nat.le_refl _⟩
  | k + 1, i, h, hi, fh, hc => by
    refine fskip0 s F L m a1 a2 a3 a4 l i hour h _ hs hm8 hh fh (by omega) (hc i (by omega) (Nat.le_refl _)) fun h' he hd => ?_
    exact (fend0 s F L m a1 a2 a3 a4 l hour hs hm8 hh k (i + 1) h' (by omega) (fh.eff he) fun j hj hij => hc j hj (by omega)).mono fun x e' h'' ⟨hx, he', hd'⟩ => ⟨hx, he.trans he', Nat.le_trans hd' hd⟩
theorem fto0 (s : St) (F L m a1 a2 a3 a4 l : Nat) (hour : Int) (Q : X → Env → H → Prop) (hs : s.ok) (hm8 : m < 8) (hml : m < s.ms.length) (hh : -100000 ≤ hour ∧ hour ≤ 1000000) : ∀ (k i : Nat) (h : H), i + k = m → FHeap s F L m a1 a2 a3 a4 hour 0 h →
    (∀ h', Eff h h' → WP globs prog none c106_l0 (fEnv s l a1 a2 a3 a4 m) h' Q) → WP globs prog none c106_l0 (fEnv s l a1 a2 a3 a4 i) h Q
  | 0, i, h, hi, fh, hQ => by
    have : i = m := by omega
    subst this
    exact hQ h Eff.refl
  | k + 1, i, h, hi, fh, hQ => fskip0 s F L m a1 a2 a3 a4 l i hour h _ hs hm8 hh fh (by omega) (.inl (by omega)) fun h' he _ =>
      fto0 s F L m a1 a2 a3 a4 l hour Q hs hm8 hml hh k (i + 1) h' (by omega) (fh.eff he) fun h'' he' => hQ h'' (he.trans he')
/-- no machine follows -/
theorem fno0 (s : St) (F L m a1 a2 a3 a4 l : Nat) (hour : Int) (h : H) (hs : s.ok) (hm8 : m < 8) (hh : -100000 ≤ hour ∧ hour ≤ 1000000) (fh : FHeap s F L m a1 a2 a3 a4 hour 0 h)
    (hc : ∀ hj : m < s.ms.length, hour < s.ms[m].start + s.ms[m].warm ∨ (s.ms[m]).stint s.gap = 0) : WC globs prog 106 [.yield l, .ptr a1 0, .ptr a2 0, .ptr a3 0, .ptr a4 0] h fun _ h' _ => Eff h h' := by
  have fh' := fh.eff Eff.relow
  refine wc_eff (fn := c106) rfl rfl ?_
  refine wp_seq (wp_skip ?_)
  have n1 := fh.g1
  refine wp_seq (wp_r (by simp [n1, stC]; rfl) ?_)
  refine wp_block ((fend0 s F L m a1 a2 a3 a4 l hour hs hm8 hh s.ms.length 0 _ (by omega) fh' fun j hj _ => ?_).mono ?_)
  · by_cases hjm : j = m
    · subst hjm; exact .inr (hc hj)
    · exact .inl hjm
  · rintro x e' h' ⟨rfl, he, hd⟩
    refine ⟨.inl rfl, [], rfl, he.next, .inr he.get, fun h2 p q1 q2 q3 q4 => ⟨q1, fun i hi => (q3 i hi).trans (he.get i hi), fun B b1 b2 => ?_⟩⟩
    have := he.low B b2 b2
    rcases q2 with q2 | q2 <;> omega
/-- one machine follows -/
theorem fone0 (s : St) (F L m a1 a2 a3 a4 l Lw : Nat) (hour : Int) (h : H) (Fn : Nat → Option HObj) (hs : s.ok) (hm8 : m < 8) (hh : -100000 ≤ hour ∧ hour ≤ 1000000) (fh : FHeap s F L m a1 a2 a3 a4 hour 0 h) (hi : m < s.ms.length)
    (hc : s.ms[m].start + s.ms[m].warm ≤ hour) (hz : (s.ms[m]).stint s.gap ≠ 0) (f1 : Fn a1 = h.get a1) (f2 : Fn a2 = h.get a2) (f3 : Fn a3 = h.get a3) (f4 : Fn a4 = h.get a4)
    (hy : ∀ h1, Eff h h1 → WY globs prog l [.int .i64 m, .int .i64 (hour + (s.ms[m]).stint s.gap)] h1 fun v h2 _ => v = .bool true ∧ (∀ i, i < h.next → h2.get i = Fn i) ∧ h.next ≤ h2.next ∧ min h.low Lw ≤ h2.low ∧ h2.low < h.next) (hL : Lw ≤ h.next) :
    WC globs prog 106 [.yield l, .ptr a1 0, .ptr a2 0, .ptr a3 0, .ptr a4 0] h fun _ h' _ => (∀ i, i < h.next → h'.get i = Fn i) ∧ h.next ≤ h'.next ∧ min h.low Lw ≤ h'.low := by
  have fh' := fh.eff Eff.relow
  refine wc_eff (fn := c106) rfl rfl ?_
  refine wp_seq (wp_skip ?_)
  have n1 := fh.g1
  refine wp_seq (wp_r (by simp [n1, stC]; rfl) ?_)
  refine wp_block (fto0 s F L m a1 a2 a3 a4 l hour _ hs hm8 hi hh m 0 _ (by omega) fh' fun h1 he => ?_)
  refine fyes0 s F L m a1 a2 a3 a4 l hour h1 _ _ hs hm8 hh (fh'.eff he) hi hc hz (fun h2 he2 => hy h2 ((Eff.relow.trans he).trans he2)) ?_
  intro h3 ⟨r1, r2, r3, r4⟩
  have fh3 : FHeap s F L m a1 a2 a3 a4 hour 0 h3 := ⟨Nat.lt_of_lt_of_le fh.l1 r2, Nat.lt_of_lt_of_le fh.l2 r2, Nat.lt_of_lt_of_le fh.l3 r2, Nat.lt_of_lt_of_le fh.l4 r2,
    by rw [r1 _ fh.l1, f1, fh.g1], by rw [r1 _ fh.l2, f2, fh.g2], by rw [r1 _ fh.l3, f3, fh.g3], by rw [r1 _ fh.l4, f4, fh.g4]⟩
  refine (fend0 s F L m a1 a2 a3 a4 l hour hs hm8 hh (s.ms.length - (m + 1)) (m + 1) h3 (by omega) fh3 fun j hj _ => .inl (by omega)).mono ?_
  rintro x e' h' ⟨rfl, he3, hd3⟩
  have hlow := he3.low (min h.low Lw) r3 (by omega)
  refine ⟨.inl rfl, [], rfl, Nat.le_trans r2 he3.next, ?_, fun h2 p q1 q2 q3 q4 => ⟨fun i hi => ?_, q1, ?_⟩⟩
  · exact .inl (Nat.lt_of_le_of_lt hd3 r4)
  · rw [q3 i hi, he3.get i (by omega), r1 i hi]
  · rcases q2 with q2 | q2 <;> omega

theorem fend1 (s : St) (F L m a1 a2 a3 a4 l : Nat) (hour : Int) (hs : s.ok) (hm8 : m < 8) (hh : -100000 ≤ hour ∧ hour ≤ 1000000) : ∀ (k i : Nat) (h : H), i + k = s.ms.length → FHeap s F L m a1 a2 a3 a4 hour 1 h →
    (∀ j (hj : j < s.ms.length), i ≤ j → j ≠ m ∨ hour < s.ms[j].start + s.ms[j].warm ∨ (s.ms[j]).last = 0) → WP globs prog none c106_l0 (fEnv s l a1 a2 a3 a4 i) h fun x _ h' => x = .exit 0 ∧ Eff h h' ∧ h'.low ≤ h.low
  | 0, i, h, hi, fh, hc => by
    have : i = s.ms.length := by omega
    subst this
    refine wp_loop (wp_seq (wp_r (by simp [fEnv]; rfl) ?_))
    refine wp_seq (wp_condF rfl (wp_exit ?_))
    exact ⟨rfl, Eff.refl, Nat.le_refl _⟩
  | k + 1, i, h, hi, fh, hc => by
    refine fskip1 s F L m a1 a2 a3 a4 l i hour h _ hs hm8 hh fh (by omega) (hc i (by omega) (Nat.le_refl _)) fun h' he hd => ?_
    exact (fend1 s F L m a1 a2 a3 a4 l hour hs hm8 hh k (i + 1) h' (by omega) (fh.eff he) fun j hj hij => hc j hj (by omega)).mono fun x e' h'' ⟨hx, he', hd'⟩ => ⟨hx, he.trans he', Nat.le_trans hd' hd⟩
theorem fto1 (s : St) (F L m a1 a2 a3 a4 l : Nat) (hour : Int) (Q : X → Env → H → Prop) (hs : s.ok) (hm8 : m < 8) (hml : m < s.ms.length) (hh : -100000 ≤ hour ∧ hour ≤ 1000000) : ∀ (k i : Nat) (h : H), i + k = m → FHeap s F L m a1 a2 a3 a4 hour 1 h →
    (∀ h', Eff h h' → WP globs prog none c106_l0 (fEnv s l a1 a2 a3 a4 m) h' Q) → WP globs prog none c106_l0 (fEnv s l a1 a2 a3 a4 i) h Q
  | 0, i, h, hi, fh, hQ => by
    have : i = m := by omega
    subst this
    exact hQ h Eff.refl
  | k + 1, i, h, hi, fh, hQ => fskip1 s F L m a1 a2 a3 a4 l i hour h _ hs hm8 hh fh (by omega) (.inl (by omega)) fun h' he _ =>
      fto1 s F L m a1 a2 a3 a4 l hour Q hs hm8 hml hh k (i + 1) h' (by omega) (fh.eff he) fun h'' he' => hQ h'' (he.trans he')
/-- no machine follows -/
theorem fno1 (s : St) (F L m a1 a2 a3 a4 l : Nat) (hour : Int) (h : H) (hs : s.ok) (hm8 : m < 8) (hh : -100000 ≤ hour ∧ hour ≤ 1000000) (fh : FHeap s F L m a1 a2 a3 a4 hour 1 h)
    (hc : ∀ hj : m < s.ms.length, hour < s.ms[m].start + s.ms[m].warm ∨ (s.ms[m]).last = 0) : WC globs prog 106 [.yield l, .ptr a1 0, .ptr a2 0, .ptr a3 0, .ptr a4 0] h fun _ h' _ => Eff h h' := by
  have fh' := fh.eff Eff.relow
  refine wc_eff (fn := c106) rfl rfl ?_
  refine wp_seq (wp_skip ?_)
  have n1 := fh.g1
  refine wp_seq (wp_r (by simp [n1, stC]; rfl) ?_)
  refine wp_block ((fend1 s F L m a1 a2 a3 a4 l hour hs hm8 hh s.ms.length 0 _ (by omega) fh' fun j hj _ => ?_).mono ?_)
  · by_cases hjm : j = m
    · subst hjm; exact .inr (hc hj)
    · exact .inl hjm
  · rintro x e' h' ⟨rfl, he, hd⟩
    refine ⟨.inl rfl, [], rfl, he.next, .inr he.get, fun h2 p q1 q2 q3 q4 => ⟨q1, fun i hi => (q3 i hi).trans (he.get i hi), fun B b1 b2 => ?_⟩⟩
    have := he.low B b2 b2
    rcases q2 with q2 | q2 <;> omega
/-- one machine follows -/
theorem fone1 (s : St) (F L m a1 a2 a3 a4 l Lw : Nat) (hour : Int) (h : H) (Fn : Nat → Option HObj) (hs : s.ok) (hm8 : m < 8) (hh : -100000 ≤ hour ∧ hour ≤ 1000000) (fh : FHeap s F L m a1 a2 a3 a4 hour 1 h) (hi : m < s.ms.length)
    (hc : s.ms[m].start + s.ms[m].warm ≤ hour) (hz : (s.ms[m]).last ≠ 0) (f1 : Fn a1 = h.get a1) (f2 : Fn a2 = h.get a2) (f3 : Fn a3 = h.get a3) (f4 : Fn a4 = h.get a4)
    (hy : ∀ h1, Eff h h1 → WY globs prog l [.int .i64 m, .int .i64 (hour + (s.ms[m]).last)] h1 fun v h2 _ => v = .bool true ∧ (∀ i, i < h.next → h2.get i = Fn i) ∧ h.next ≤ h2.next ∧ min h.low Lw ≤ h2.low ∧ h2.low < h.next) (hL : Lw ≤ h.next) :
    WC globs prog 106 [.yield l, .ptr a1 0, .ptr a2 0, .ptr a3 0, .ptr a4 0] h fun _ h' _ => (∀ i, i < h.next → h'.get i = Fn i) ∧ h.next ≤ h'.next ∧ min h.low Lw ≤ h'.low := by
  have fh' := fh.eff Eff.relow
  refine wc_eff (fn := c106) rfl rfl ?_
  refine wp_seq (wp_skip ?_)
  have n1 := fh.g1
  refine wp_seq (wp_r (by simp [n1, stC]; rfl) ?_)
  refine wp_block (fto1 s F L m a1 a2 a3 a4 l hour _ hs hm8 hi hh m 0 _ (by omega) fh' fun h1 he => ?_)
  refine fyes1 s F L m a1 a2 a3 a4 l hour h1 _ _ hs hm8 hh (fh'.eff he) hi hc hz (fun h2 he2 => hy h2 ((Eff.relow.trans he).trans he2)) ?_
  intro h3 ⟨r1, r2, r3, r4⟩
  have fh3 : FHeap s F L m a1 a2 a3 a4 hour 1 h3 := ⟨Nat.lt_of_lt_of_le fh.l1 r2, Nat.lt_of_lt_of_le fh.l2 r2, Nat.lt_of_lt_of_le fh.l3 r2, Nat.lt_of_lt_of_le fh.l4 r2,
    by rw [r1 _ fh.l1, f1, fh.g1], by rw [r1 _ fh.l2, f2, fh.g2], by rw [r1 _ fh.l3, f3, fh.g3], by rw [r1 _ fh.l4, f4, fh.g4]⟩
  refine (fend1 s F L m a1 a2 a3 a4 l hour hs hm8 hh (s.ms.length - (m + 1)) (m + 1) h3 (by omega) fh3 fun j hj _ => .inl (by omega)).mono ?_
  rintro x e' h' ⟨rfl, he3, hd3⟩
  have hlow := he3.low (min h.low Lw) r3 (by omega)
  refine ⟨.inl rfl, [], rfl, Nat.le_trans r2 he3.next, ?_, fun h2 p q1 q2 q3 q4 => ⟨fun i hi => ?_, q1, ?_⟩⟩
  · exact .inl (Nat.lt_of_le_of_lt hd3 r4)
  · rw [q3 i hi, he3.get i (by omega), r1 i hi]
  · rcases q2 with q2 | q2 <;> omega
end Go.Vi.Tryd
