/- Spare's Plan: what it returns is a plan. No statement of a claim stands here. -/
import Derived.Test.YtngcbeckobfaaaaDoorSp
set_option linter.unusedSimpArgs false
set_option linter.unusedVariables false
namespace Go.Vi.Tryd
open Go Go.Vi
attribute [local simp] reg pre guarded isCall ev again Env.put alook bindArgs Opd.val ar_add ar_sub ar_mul ar_quo ar_rem ar_eql ar_neq ar_lss ar_leq ar_gtr ar_geq Env.mask List.filterMap ressOf resOf pack V.clasp sealL V.top topL get_new get_set next_new next_set low_new low_set low_mk next_mk get_mk vals sub V.isAgg V.cells V.cell1 setRange bnd ival bval fillIn minmax Nat.ne_of_lt ne2 ne3 ne4 ne5 ne6 V.same sameL Nat.beq_refl

/-- what is known of a last machine -/
def LastE (s : St) (f : Nat → Option Int) (k set : Nat) (n : Int) : Prop :=
  ∃ hk : k < s.ms.length, set.testBit k = true ∧ ∃ n', f (del set (2 ^ k)) = some n' ∧ 0 ≤ n' ∧ (s.ms[k]).start + (s.ms[k]).warm ≤ n' ∧ (s.ms[k]).last ≠ 0 ∧ n = n' + (s.ms[k]).last
theorem eUpto_last (s : St) (f : Nat → Option Int) (set : Nat) : ∀ i, 0 < (eUpto s f set i).1 → LastE s f (eUpto s f set i).2 set (eUpto s f set i).1
  | 0, h => by simp [eUpto] at h
  | i + 1, h => by
    have ih := eUpto_last s f set i
    simp only [eUpto] at h ⊢
    unfold eStep at h ⊢
    split
    · rename_i hi
      rw [dif_pos hi] at h
      split
      · rename_i hb
        rw [if_pos hb] at h
        split
        · rename_i n hn
          rw [hn] at h
          simp only at h
          split
          · rename_i h1; rw [if_pos h1] at h; exact ih h
          · rename_i h1
            rw [if_neg h1] at h
            split
            · rename_i h2; rw [if_pos h2] at h; exact ih h
            · rename_i h2
              rw [if_neg h2] at h
              split
              · rename_i h3; rw [if_pos h3] at h; exact ih h
              · show LastE s f i set (n + s.ms[i].last)
                exact ⟨hi, hb, n, hn, by omega, by omega, fun e => h2 (.inr e), rfl⟩
        · rename_i hn; rw [hn] at h; exact ih h
      · rename_i hb; rw [if_neg hb] at h; exact ih h
    · rename_i hi; rw [dif_neg hi] at h; exact ih h

def ints (l : List Nat) : List V := l.map fun k : Nat => V.int .i64 (k : Int)
def oEnv (t1 t5 set : Nat) (kk : V) (l : List Nat) (c : Nat) (tt : Tip) : Env := [(1, .ptr t1 0), (5, .ptr t5 0), (6, .int .i64 set), (8, kk), (9, .slice c (ints l) tt)]
theorem order_loop (s : St) (F L t1 t5 n0 : Nat) (f g : Nat → Option Int) (hs : s.ok) : ∀ (set k : Nat) (kk : V) (l : List Nat) (c : Nat) (tt : Tip) (h : H), set < 2 ^ s.ms.length → kk = .int .i64 k → (c = 1 ∨ l = []) → l.length + set ≤ 600 →
    Opened s F L f g h → h.get t5 = some (.cells (stC s F L)) → t5 < h.next → n0 ≤ h.next → set ≠ 0 → k < s.ms.length → set.testBit k = true → (∃ n', f (del set (2 ^ k)) = some n' ∧ 0 ≤ n') →
    WP globs prog none c6_l0 (oEnv t1 t5 set kk l c tt) h fun x e' h' => x = .exit 0 ∧ alook 1 e' = some (.ptr t1 0) ∧ ∃ pre n' c' tt', alook 9 e' = some (.slice c' (ints (pre ++ k :: l)) tt') ∧ c' = 1 ∧ f (del set (2 ^ k)) = some n' ∧ Ch s (del set (2 ^ k)) pre n' ∧ En n0 h h' := by
  intro set
  induction set using Nat.strongRecOn with
  | _ set ih =>
    intro k kk l c tt h hset hkk hc hlen o g5 l5 hn0 hz hk hb hn
    subst hkk
    have hs' := hs
    obtain ⟨s1, s2, s3, s4, s5, s6, s7⟩ := hs'
    have hp : 2 ^ s.ms.length ≤ 2 ^ 8 := Nat.pow_le_pow_right (by omega) s6
    have hz' : 0 < set := by omega
    refine wp_loop (wp_seq (wp_seq (wp_r (by simp [oEnv, hz']; rfl) ?_)))
    refine wp_condT rfl (wp_skip ?_)
    have hdel := del_lt hb
    have hshl := ar_shl (b := k) (by omega)
    have hpw : 2 ^ k ≤ 2 ^ 8 := Nat.pow_le_pow_right (by omega) (by omega)
    have han := ar_andNot (a := set) (b := 2 ^ k) (by omega) (by omega)
    obtain ⟨n', hn', hn0'⟩ := hn
    obtain ⟨b1, b2, b3, b4⟩ := o.good _ _ hn'
    have hpe : (2 ^ k : Nat) = 2 ^ k := rfl
    -- behind the append
    have rest : ∀ (h2 : H) (tt2 : Tip), Eff h h2 → WP globs prog none c6_l0.l.r.l.r ((1, .ptr t1 0) :: (5, .ptr t5 0) :: (6, .int .i64 set) :: (8, .int .i64 k) :: (9, .slice 1 (ints (k :: l)) tt2) :: []) h2
        (blockQ 1 (thenQ globs prog none c6_l0 fun x e' h' => x = .exit 0 ∧ alook 1 e' = some (.ptr t1 0) ∧ ∃ pre n' c' tt', alook 9 e' = some (.slice c' (ints (pre ++ k :: l)) tt') ∧ c' = 1 ∧ f (del set (2 ^ k)) = some n' ∧ Ch s (del set (2 ^ k)) pre n' ∧ En n0 h h')) := by
      intro h2 tt2 e2
      have o2 := o.eff e2
      have y5 := (e2.get _ l5).trans g5
      obtain ⟨es, gL, rL⟩ := o2.mL
      generalize hpe' : (2 ^ k : Nat) = pw at *
      refine wp_seq (wp_r (by simp [hshl, han]; rfl) ?_)
      have hk' : keyOk true [some .i64, some .i64] (.agg [.int .i64 (del set pw : Nat), .int .i64 (cnt (del set pw))]) = true := keyOk_key _
      have hlk : mlook (.agg [.int .i64 (del set pw : Nat), .int .i64 (cnt (del set pw))]) es = some ((g (del set pw)).map (V.int .i64 ·)) := rL.look (del set pw)
      refine wp_rc ?_
      refine wo_p (by simp [y5, stC]; rfl) ?_
      refine wo_fn (count_run (del set pw) _ (by omega)) (by simp) (by simp) (by simp [y5, stC]) ?_
      by_cases hz1 : del set pw = 0
      · have n'0 := b3 hz1
        cases hg : g (del set pw) with
        | none =>
          rw [hg] at hlk
          refine wo_p (by simp [hk', hlk, mapOf, gL, lookRes]; rfl) ?_
          refine wo_m (by simp; rfl) ?_
          refine wp_loop (wp_seq (wp_seq (wp_r (by simp [hz1]; rfl) ?_)))
          refine wp_condF rfl (wp_exit ?_)
          exact ⟨rfl, rfl, [], n', 1, tt2, rfl, rfl, hn', by rw [hz1, n'0]; exact .nil, e2.en hn0⟩
        | some j =>
          rw [hg] at hlk
          refine wo_p (by simp [hk', hlk, mapOf, gL, lookRes]; rfl) ?_
          refine wo_m (by simp; rfl) ?_
          refine wp_loop (wp_seq (wp_seq (wp_r (by simp [hz1]; rfl) ?_)))
          refine wp_condF rfl (wp_exit ?_)
          exact ⟨rfl, rfl, [], n', 1, tt2, rfl, rfl, hn', by rw [hz1, n'0]; exact .nil, e2.en hn0⟩
      · obtain ⟨j, hj, hjk, hjb, m', c1, c2, c3, c4, c5⟩ := b4 hz1 hn0'
        rw [hj] at hlk
        refine wo_p (by simp [hk', hlk, mapOf, gL, lookRes]; rfl) ?_
        refine wo_m (by simp; rfl) ?_
        refine (ih (del set pw) hdel j _ (k :: l) 1 tt2 h2 (by omega) rfl (.inl rfl) (by simp; omega) o2 y5 (Nat.lt_of_lt_of_le l5 e2.next) (Nat.le_trans hn0 e2.next) hz1 hjk hjb ⟨m', c1, c2⟩).mono ?_
        rintro x e' h' ⟨r1, r2, pre, m2, c', tt', r3, r4, r5, r6, r7⟩
        have hm : m2 = m' := Option.some.inj (r5.symm.trans c1)
        subst hm
        refine ⟨r1, r2, pre ++ [j], n', c', tt', by rw [r3]; simp, r4, hn', ?_, (e2.en hn0).trans r7⟩
        have := Ch.snoc (s := s) hjk hjb r6 (by rw [mAt_eq hjk]; exact c3) (by rw [mAt_eq hjk]; exact c4)
        rw [mAt_eq hjk, ← c5] at this
        exact this
    cases l with
    | nil =>
      refine wp_block (wp_seq (wp_r (by simp [ints]; rfl) ?_))
      exact rest h .shut Eff.refl
    | cons j l =>
      have hc1 : c = 1 := by rcases hc with h | h; exact h; cases h
      have hll : 1 + (l.length + 1) ≤ lim := by simp at hlen; simp [lim]; omega
      subst hc1
      refine wp_block (wp_seq (wp_r (by simp [ints, hll]; rfl) ?_))
      exact rest _ (.own h.next) Eff.new

theorem ints_len (l : List Nat) : (ints l).length = l.length := by simp [ints]
theorem ints_get {l : List Nat} {i : Nat} (h : i < l.length) : (ints l)[i]? = some (.int .i64 (l[i] : Nat)) := by simp [ints, h]
def OutRep (n0 : Nat) (ps : List T) (v : V) (h : H) : Prop :=
  (ps = [] ∧ v = .slice 0 [] .nil) ∨ ∃ id, v = .slice 3 (ps.map T.v) (.own id) ∧ h.get id = some (.tip 3 ps.length) ∧ n0 ≤ id ∧ id < h.next
def uEnv (t1 : Nat) (order : List Nat) (tt : Tip) (out : V) (over : Int) (i : Nat) : Env := [(1, .ptr t1 0), (9, .slice 1 (ints order) tt), (10, out), (11, .int .i64 over), (51, .slice 1 (ints order) tt), (52, .int .i64 order.length), (53, .int .i64 i)]

theorem out_loop (s : St) (t1 n0 : Nat) (order : List Nat) (tt : Tip) (hs : s.ok) (hol : order.length ≤ 600) (hord : ∀ k ∈ order, k < s.ms.length) : ∀ (kk i : Nat) (ps : List T) (out : V) (over : Int) (h : H), i + kk = order.length → ps.length ≤ i → OutRep n0 ps out h → 0 ≤ over ∧ over ≤ 500 * (i : Int) →
    h.get t1 = some (.cells [.int .i64 s.hours, .int .i64 s.gap, .slice 5 (s.ms.map M.v) s.t]) → t1 < h.next → n0 ≤ h.next →
    WP globs prog none c6_l1 (uEnv t1 order tt out over i) h fun x e' h' => x = .exit 2 ∧ ∃ out', alook 10 e' = some out' ∧ OutRep n0 (ps ++ walk s s.hours (order.drop i) over) out' h' ∧ En n0 h h'
  | 0, i, ps, out, over, h, hi, hpl, hr, ho, g1, l1, hn => by
    have : i = order.length := by omega
    subst this
    refine wp_loop (wp_seq (wp_r (by simp [uEnv]; rfl) ?_))
    refine wp_seq (wp_condF rfl (wp_exit ?_))
    refine ⟨rfl, out, rfl, ?_, En.refl⟩
    simp [walk]; exact hr
  | kk + 1, i, ps, out, over, h, hi, hpl, hr, ho, g1, l1, hn => by
    have hlt : i < order.length := by omega
    have hg := ints_get hlt
    have hkl := hord _ (List.getElem_mem hlt)
    have hd : order.drop i = order[i] :: order.drop (i + 1) := List.drop_eq_getElem_cons hlt
    generalize hke : order[i] = k at *
    have hs' := hs
    obtain ⟨s1, s2, s3, s4, s5, s6, s7⟩ := hs'
    have hm := s7 s.ms[k] (List.getElem_mem _)
    have hma := mAt_eq hkl
    have st1 := stint_bd (g := s.gap) hm ⟨s3, s4⟩
    have st2 := last_bd hm
    have hm' := hm
    obtain ⟨m1, m2, m3, m4, m5, m6, m7, m8, m9⟩ := hm'
    have n1 : t1 ≠ h.next := by omega
    refine wp_loop (wp_seq (wp_r (by simp [uEnv, hlt]; rfl) ?_))
    refine wp_seq (wp_condT rfl (wp_skip ?_))
    refine wp_seq (wp_block (wp_seq (wp_r (by simp [hg]; rfl) ?_)))
    refine wp_seq (wp_rc ?_)
    refine wo_p (by simp [g1]; rfl) ?_
    refine wo_fn (of_run s k _ hkl) (by simp) (by simp [St.v]) (by simp [g1]) ?_
    refine wo_p (by simp; rfl) ?_
    refine wo_m (by simp; rfl) ?_
    have e1 : Eff h ((h.new (.cells [.int .i64 0, .int .i64 0, .int .i64 0, .int .i64 0, .int .i64 0, .int .i64 0])).set h.next (.cells [.int .i64 s.ms[k].start, .int .i64 s.ms[k].warm, .int .i64 s.ms[k].low, .int .i64 s.ms[k].high, .int .i64 s.ms[k].drift, .int .i64 s.gap])) := Eff.set Eff.new (Nat.le_refl _)
    have x14 : ((h.new (.cells [.int .i64 0, .int .i64 0, .int .i64 0, .int .i64 0, .int .i64 0, .int .i64 0])).set h.next (.cells [.int .i64 s.ms[k].start, .int .i64 s.ms[k].warm, .int .i64 s.ms[k].low, .int .i64 s.ms[k].high, .int .i64 s.ms[k].drift, .int .i64 s.gap])).get h.next = some (.cells [.int .i64 s.ms[k].start, .int .i64 s.ms[k].warm, .int .i64 s.ms[k].low, .int .i64 s.ms[k].high, .int .i64 s.ms[k].drift, .int .i64 s.gap]) := by simp
    have nx : h.next + 1 ≤ ((h.new (.cells [.int .i64 0, .int .i64 0, .int .i64 0, .int .i64 0, .int .i64 0, .int .i64 0])).set h.next (.cells [.int .i64 s.ms[k].start, .int .i64 s.ms[k].warm, .int .i64 s.ms[k].low, .int .i64 s.ms[k].high, .int .i64 s.ms[k].drift, .int .i64 s.gap])).next := by simp
    generalize (h.new (.cells [.int .i64 0, .int .i64 0, .int .i64 0, .int .i64 0, .int .i64 0, .int .i64 0])).set h.next (.cells [.int .i64 s.ms[k].start, .int .i64 s.ms[k].warm, .int .i64 s.ms[k].low, .int .i64 s.ms[k].high, .int .i64 s.ms[k].drift, .int .i64 s.gap]) = hA at *
    have y1 := (e1.get _ l1).trans g1
    have rA : OutRep n0 ps out hA := by
      rcases hr with hr | ⟨id, r1, r2, r3, r4⟩
      · exact .inl hr
      · exact .inr ⟨id, r1, (e1.get _ r4).trans r2, r3, Nat.lt_of_lt_of_le r4 e1.next⟩
    by_cases hov : s.hours ≤ over
    · refine wp_seq (wp_seq (wp_r (by simp [y1, hov]; rfl) ?_))
      refine wp_condT rfl (wp_exit ?_)
      refine ⟨rfl, out, rfl, ?_, e1.en hn⟩
      rw [hd, walk, if_pos hov, List.append_nil]; exact rA
    refine wp_seq (wp_seq (wp_r (by simp [y1, hov]; rfl) ?_))
    refine wp_condF rfl (wp_skip ?_)
    have w1 : IntKind.wrap .i64 (over - s.ms[k].warm) = over - s.ms[k].warm := by rw [wrap64] <;> omega
    have w2 : IntKind.wrap .i64 (i + 1 : Int) = (i : Int) + 1 := by rw [wrap64] <;> omega
    have w2' : IntKind.wrap .i64 (i + 1 : Int) = ((i + 1 : Nat) : Int) := by rw [wrap64] <;> omega
    have w3 : IntKind.wrap .i64 (over + s.ms[k].stint s.gap) = over + s.ms[k].stint s.gap := by rw [wrap64] <;> omega
    -- behind the append
    have rest : ∀ (out2 : V) (h2 : H), OutRep n0 (ps ++ [⟨k, over - s.ms[k].warm, over⟩]) out2 h2 → En n0 hA h2 → h2.get h.next = some (.cells [.int .i64 s.ms[k].start, .int .i64 s.ms[k].warm, .int .i64 s.ms[k].low, .int .i64 s.ms[k].high, .int .i64 s.ms[k].drift, .int .i64 s.gap]) → h2.get t1 = some (.cells [.int .i64 s.hours, .int .i64 s.gap, .slice 5 (s.ms.map M.v) s.t]) →
        WP globs prog none c6_l1.l.r.r.l.l.r.r.r.r ((1, .ptr t1 0) :: (9, .slice 1 (ints order) tt) :: (10, out2) :: (11, .int .i64 over) :: (12, .int .i64 i) :: (14, .ptr h.next 0) :: (51, .slice 1 (ints order) tt) :: (52, .int .i64 order.length) :: (53, .int .i64 i) :: []) h2
          (blockQ 3 (thenQ globs prog none c6_l1.l.r.r.r (thenQ globs prog none c6_l1 fun x e' h' => x = .exit 2 ∧ ∃ out', alook 10 e' = some out' ∧ OutRep n0 (ps ++ walk s s.hours (order.drop i) over) out' h' ∧ En n0 h h'))) := by
      intro out2 h2 r2 eB z14 z1
      have nB := eB.next
      have fin : ∀ (ov : Int) (e' : Env), (∀ j ∈ ([1, 9, 10, 11, 51, 52, 53] : List Nat), alook j e' = alook j (uEnv t1 order tt out2 ov i)) → (0 ≤ ov ∧ ov ≤ 500 * ((i + 1 : Nat) : Int)) → walk s s.hours (order.drop (i + 1)) ov = walk s s.hours (order.drop (i + 1)) (over + s.ms[k].stint s.gap) →
          WP globs prog none c6_l1.l.r.r.r e' h2 (thenQ globs prog none c6_l1 fun x e' h' => x = .exit 2 ∧ ∃ out', alook 10 e' = some out' ∧ OutRep n0 (ps ++ walk s s.hours (order.drop i) over) out' h' ∧ En n0 h h') := by
        intro ov e' hj q1 q2
        have j1 := hj 1 (by simp); have j9 := hj 9 (by simp); have j10 := hj 10 (by simp); have j11 := hj 11 (by simp); have j51 := hj 51 (by simp); have j52 := hj 52 (by simp); have j53 := hj 53 (by simp)
        simp only [uEnv] at j1 j9 j10 j11 j51 j52 j53
        refine wp_r (by simp [j1, j9, j10, j11, j51, j52, j53, w2', -Int.natCast_add]; rfl) ?_
        refine (out_loop s t1 n0 order tt hs hol hord kk (i + 1) _ out2 ov h2 (by omega) (by simp; omega) r2 q1 z1 (by omega) (by omega)).mono ?_
        rintro x e' h' ⟨r0, out', r3, r4, r5⟩
        refine ⟨r0, out', r3, ?_, (e1.en hn).trans (eB.trans r5)⟩
        rw [hd, walk, if_neg hov, hma]
        rw [q2, List.append_assoc] at r4
        exact r4
      by_cases hl : i + 1 < order.length
      · have hl' : (i : Int) + 1 < order.length := by omega
        refine wp_seq (wp_r (by simp [w2, ints_len, hl']; rfl) ?_)
        refine wp_condT rfl (wp_rc ?_)
        refine wo_p (by simp [z14]; rfl) ?_
        refine wo_fn (stint_run s.ms[k] s.gap _ hm ⟨s3, s4⟩) (by simp) (by simp [mach]) (by simp) ?_
        refine wo_p (by simp [w3]; rfl) ?_
        refine wo_m (by simp; rfl) ?_
        exact fin _ _ (by simp [uEnv]) (by omega) rfl
      · have hl' : ¬ (i : Int) + 1 < order.length := by omega
        refine wp_seq (wp_r (by simp [w2, ints_len, hl']; rfl) ?_)
        refine wp_condF rfl (wp_skip ?_)
        exact fin over _ (by simp [uEnv]) (by omega) (by rw [List.drop_eq_nil_of_le (by omega)]; rfl)
    rcases rA with ⟨rfl, rfl⟩ | ⟨id, rfl, r2, r3, r4⟩
    · have lm : (1 : Nat) ≤ lim := by simp [lim]
      refine wp_seq (wp_r (by simp [x14, w1, lm]; rfl) ?_)
      exact rest _ _ (.inr ⟨hA.next, rfl, by simp, by omega, by simp⟩) (Eff.new.en (by omega)) ((Eff.new.get _ (by omega)).trans x14) ((Eff.new.get _ (by omega)).trans y1)
    · have lm : ps.length + 1 ≤ lim := by simp [lim]; omega
      refine wp_seq (wp_r (by simp [x14, w1, lm, r2]; rfl) ?_)
      have i1 : h.next ≠ id := fun e => by rw [← e, x14] at r2; cases r2
      have i2 : t1 ≠ id := fun e => by rw [← e, y1] at r2; cases r2
      refine rest _ _ (.inr ⟨id, by simp [T.v], by simp [r2], r3, r4⟩) ⟨Nat.le_refl _, fun j hj => ?_, fun B c1 c2 => by simp; omega⟩ (by simp [i1, x14]) (by simp [i2, y1])
      have : j ≠ id := by omega
      simp [this]

theorem Ch.len {s : St} {set : Nat} {l : List Nat} {n : Int} (h : Ch s set l n) : l.length ≤ set := by
  induction h with
  | nil => simp
  | snoc hk hb h h1 h2 ih =>
    have := del_lt hb
    simp; omega
theorem topL_T : ∀ (ps : List T), topL (ps.map T.v) = 0
  | [] => rfl
  | t :: ps => by
    show Nat.max _ (topL (ps.map T.v)) = 0
    rw [topL_T ps]; rfl
theorem same_ms : ∀ (ms : List M), sameL (ms.map M.v) (ms.map M.v) = true
  | [] => rfl
  | m :: ms => by
    show (V.same m.v m.v && sameL (ms.map M.v) (ms.map M.v)) = true
    rw [same_ms ms]
    simp [M.v]
theorem walk_len (s : St) (hours : Int) : ∀ (l : List Nat) (o : Int), (walk s hours l o).length ≤ l.length
  | [], o => by simp [walk]
  | k :: r, o => by
    unfold walk
    split
    · simp
    · have := walk_len s hours r (o + (mAt s k).stint s.gap)
      simp; omega

theorem Plan_run (s : St) (h : H) (ht : ∀ id, s.t ≠ .own id) (hl : s.ms.length ≤ 9223372036854775807) : WC globs prog 6 [s.v] h fun v h' p => ((¬ s.ok ∧ v = .tuple [.slice 0 [] .nil, .int .i64 80]) ∨ (s.ok ∧ v = .tuple [.slice 0 [] .nil, .int .i64 4]) ∨
    (s.ok ∧ ∃ ps, v = .tuple [.slice 3 (ps.map T.v) .shut, .int .i64 0] ∧ PlanOk s s.hours ps ∧ ps.length ≤ 1000)) ∧ h' = h ∧ p = true := by
  refine wc_pure (fn := c6) rfl rfl ?_
  refine wp_seq (wp_r (by simp [St.v]; rfl) ?_)
  refine wp_seq (wp_seq (wp_rc ?_))
  refine wo_p (by simp; rfl) ?_
  refine wo_fn (check_run s _ hl) (by simp) (by simp [St.v]) (by simp) ?_
  by_cases hs : s.ok
  case neg =>
    refine wo_p (by simp [hs]; rfl) ?_
    refine wo_m (by simp; rfl) ?_
    refine wp_seq (wp_r (by simp; rfl) ?_)
    refine wp_condT rfl (wp_seq (wp_r (by simp; rfl) ?_))
    refine wp_ret ?_
    simp [c6, thenQ, hs]
  refine wo_p (by simp [hs]; rfl) ?_
  refine wo_m (by simp; rfl) ?_
  refine wp_seq (wp_r (by simp; rfl) ?_)
  refine wp_condF rfl (wp_skip ?_)
  have hs' := hs
  obtain ⟨s1, s2, s3, s4, s5, s6, s7⟩ := hs'
  have hp : 2 ^ s.ms.length ≤ 2 ^ 8 := Nat.pow_le_pow_right (by omega) s6
  have hp0 : 0 < 2 ^ s.ms.length := Nat.two_pow_pos _
  refine wp_seq (wp_rc ?_)
  refine wo_p (by simp; rfl) ?_
  refine wo_call (k := 27) (first := []) (args := [s.v]) (caps := []) (by simp) (by simp) (by simp [St.v]) ((opened_run s _ hs ht).mono ?_)
  rintro v h1 p ⟨F, L, f, g, rfl, o, eff⟩
  refine ⟨fun h => (by cases h), by simp, ?_⟩
  have e0 : Eff ({ h with low := h.next } : H) (({ h with low := h.next } : H).new (.cells [.int .i64 s.hours, .int .i64 s.gap, .slice 5 (s.ms.map M.v) s.t])) := Eff.new
  have x1 : h1.get h.next = some (.cells [.int .i64 s.hours, .int .i64 s.gap, .slice 5 (s.ms.map M.v) s.t]) := by rw [eff.get _ (by simp)]; simp
  have n1 := eff.next
  simp only [next_new, next_mk] at n1
  have lw1 : h.next ≤ h1.low := eff.low _ (by simp) (by simp)
  clear e0
  refine wo_p (by simp [stV]; rfl) ?_
  refine wo_m (by simp; rfl) ?_
  have e2 : Eff h1 ((h1.new (.cells [.int .i64 0, .int .i64 0, .slice 0 [] .nil, .nilm, .nilm])).set h1.next (.cells [.int .i64 s.hours, .int .i64 s.gap, .slice 5 (s.ms.map M.v) s.t, .map F, .map L])) := Eff.set Eff.new (Nat.le_refl _)
  have x5 : ((h1.new (.cells [.int .i64 0, .int .i64 0, .slice 0 [] .nil, .nilm, .nilm])).set h1.next (.cells [.int .i64 s.hours, .int .i64 s.gap, .slice 5 (s.ms.map M.v) s.t, .map F, .map L])).get h1.next = some (.cells (stC s F L)) := by simp [stC]
  have nx : h1.next + 1 ≤ ((h1.new (.cells [.int .i64 0, .int .i64 0, .slice 0 [] .nil, .nilm, .nilm])).set h1.next (.cells [.int .i64 s.hours, .int .i64 s.gap, .slice 5 (s.ms.map M.v) s.t, .map F, .map L])).next := by simp
  generalize (h1.new (.cells [.int .i64 0, .int .i64 0, .slice 0 [] .nil, .nilm, .nilm])).set h1.next (.cells [.int .i64 s.hours, .int .i64 s.gap, .slice 5 (s.ms.map M.v) s.t, .map F, .map L]) = h2 at *
  have o2 := o.eff e2
  have y1 := (e2.get _ (by omega)).trans x1
  have lw2 := e2.low h.next lw1 (by omega)
  refine wp_seq (wp_rc ?_)
  refine wo_p (by simp [x5, y1, stC]; rfl) ?_
  refine wo_fn (all_run s _ s6) (by simp) (by simp [St.v]) (by simp [x5, stC, same_ms]) ?_
  refine wo_p (by simp; rfl) ?_
  refine wo_call (k := 28) (first := []) (args := [stV s F L, .int .i64 ((2 ^ s.ms.length - 1 : Nat) : Int)]) (caps := []) (by simp) (by simp) (by simp [stV]) ((fewest_run s F L (2 ^ s.ms.length - 1) f g h2 hs o2 (by omega)).mono ?_)
  rintro v h3 p ⟨best, rfl, hb, rfl, rfl⟩
  refine ⟨fun _ => rfl, by simp, ?_⟩
  refine wo_p (by simp; rfl) ?_
  refine wo_m (by simp; rfl) ?_
  by_cases hz : best = 0
  · have bz : ((best : Int) == 0) = true := by simp [hz]
    refine wp_seq (wp_seq (wp_r (by simp [bz]; rfl) ?_))
    refine wp_condT rfl (wp_seq (wp_r (by simp; rfl) ?_))
    refine wp_ret ?_
    simp [c6, thenQ, hs, lw2]
  have bz : ((best : Int) == 0) = false := by simp [hz]
  refine wp_seq (wp_seq (wp_r (by simp [bz]; rfl) ?_))
  refine wp_condF rfl (wp_skip ?_)
  obtain ⟨hb1, hb2⟩ : best ≤ 2 ^ s.ms.length - 1 ∧ s.hours ≤ (endsF s f best).1 := by
    rcases hb with hb | hb
    · exact absurd hb hz
    · exact hb
  refine wp_seq (wp_rc ?_)
  refine wo_p (by simp [x5, stC]; rfl) ?_
  refine wo_fn (ends_run s F L best f g h3 hs o2 (by omega)) (by simp) (by simp [stV]) (by simp) ?_
  refine wo_p (by simp; rfl) ?_
  refine wo_m (by simp; rfl) ?_
  refine wp_seq (wp_r (by simp; rfl) ?_)
  have hlast : LastE s f (endsF s f best).2 best (endsF s f best).1 := eUpto_last s f best s.ms.length (by show 0 < (endsF s f best).1; omega)
  generalize (endsF s f best).2 = k at *
  generalize (endsF s f best).1 = until_ at *
  obtain ⟨hk, hbit, n', c1, c2, c3, c4, c5⟩ := hlast
  refine wp_seq (wp_block ((order_loop s F L h.next h1.next (h1.next + 1) f g hs best k _ [] 0 .nil h3 (by omega) rfl (.inr rfl) (by simp; omega) o2 x5 (by omega) (by omega) hz hk hbit ⟨n', c1, c2⟩).mono ?_))
  rintro x e' h4 ⟨rfl, j1, pre, m', c', tt', j9, rfl, d1, d2, en4⟩
  obtain rfl : m' = n' := Option.some.inj (d1.symm.trans c1)
  have z1 : h4.get h.next = some (.cells [.int .i64 s.hours, .int .i64 s.gap, .slice 5 (s.ms.map M.v) s.t]) := (en4.get _ (by omega)).trans y1
  have lw4 := en4.low h.next lw2 (by omega)
  have nx4 := en4.next
  have hlen := d2.len
  have hord : ∀ j ∈ pre ++ [k], j < s.ms.length := by
    intro j hj
    rcases List.mem_append.1 hj with hj | hj
    · exact (d2.mem j hj).1
    · rw [List.mem_singleton.1 hj]; exact hk
  have hnod : (pre ++ [k]).Nodup := by
    rw [List.nodup_append]
    refine ⟨d2.nodup, by simp, fun a ha b hb' => ?_⟩
    rw [List.mem_singleton.1 hb']
    rintro rfl
    have := (d2.mem a ha).2
    rw [testBit_del, Nat.testBit_two_pow_self] at this
    simp at this
  have hclimb : Climb s s.hours (pre ++ [k]) 0 := d2.climb (by simp) ⟨hk, by rw [mAt_eq hk]; exact c3, by rw [mAt_eq hk]; exact c4, by rw [mAt_eq hk]; omega⟩
  have hpk := plan_ok s hs (pre ++ [k]) (by simp) hnod hclimb
  have hwl := walk_len s s.hours (pre ++ [k]) 0
  have hdl := del_lt hbit
  have hol : (pre ++ [k]).length ≤ 600 := by simp; omega
  generalize hor : pre ++ [k] = order at *
  refine wp_seq (wp_r (by simp [j1, j9]; rfl) ?_)
  refine wp_seq (wp_r (by simp; rfl) ?_)
  refine wp_seq (wp_seq (wp_r (by simp [ints_len]; rfl) ?_))
  refine wp_block ((out_loop s h.next h4.next order tt' hs hol hord order.length 0 [] (.slice 0 [] .nil) 0 h4 (by omega) (by simp) (.inl ⟨rfl, rfl⟩) (by omega) z1 (by omega) (Nat.le_refl _)).mono ?_)
  rintro x e' h5 ⟨rfl, out', k10, hrep, en5⟩
  rw [List.drop_zero, List.nil_append] at hrep
  have lw5 := en5.low h.next lw4 (by omega)
  rcases hrep with ⟨hrep, _⟩ | ⟨id, rfl, r2, r3, r4⟩
  · exact absurd hrep hpk.ne
  · generalize walk s s.hours order 0 = ps at *
    refine wp_seq (wp_r (by simp [k10, Tip.cut, List.take_of_length_le]; rfl) ?_)
    refine wp_ret ?_
    refine ⟨.inr rfl, [.slice 3 (ps.map T.v) .shut, .int .i64 0], by simp [c6], ?_, lw5, .inr (.inr ⟨hs, ps, rfl, hpk, by omega⟩), rfl, rfl⟩
    show Nat.max (Nat.max (topL (ps.map T.v)) 0) (Nat.max 0 0) ≤ h.next
    rw [topL_T]
    simp
end Go.Vi.Tryd
