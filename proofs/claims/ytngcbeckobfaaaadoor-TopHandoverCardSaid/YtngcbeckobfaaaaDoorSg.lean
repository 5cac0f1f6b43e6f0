/- Spare's ends: until when a set of machines tells the time. No statement of a claim stands here. -/
import Derived.Test.YtngcbeckobfaaaaDoorSf
set_option linter.unusedSimpArgs false
set_option linter.unusedVariables false
namespace Go.Vi.Tryd
open Go Go.Vi
attribute [local simp] reg pre guarded isCall ev again Env.put alook bindArgs Opd.val ar_add ar_sub ar_mul ar_quo ar_rem ar_eql ar_neq ar_lss ar_leq ar_gtr ar_geq Env.mask List.filterMap ressOf resOf pack V.clasp sealL V.top topL get_new get_set next_new next_set low_new low_set low_mk next_mk get_mk vals sub V.isAgg V.cells V.cell1 setRange bnd ival bval fillIn minmax Nat.ne_of_lt ne2 ne3 ne4 ne5 ne6 V.same sameL Nat.beq_refl

/-- nothing below a place is turned -/
structure En (n0 : Nat) (h h' : H) : Prop where
  next : h.next ≤ h'.next
  get : ∀ j, j < n0 → h'.get j = h.get j
  low : ∀ B, B ≤ h.low → B ≤ n0 → B ≤ h'.low
theorem En.trans {n0 : Nat} {h h' h'' : H} (a : En n0 h h') (b : En n0 h' h'') : En n0 h h'' :=
  ⟨Nat.le_trans a.next b.next, fun j hj => (b.get j hj).trans (a.get j hj), fun B h1 h2 => b.low B (a.low B h1 h2) h2⟩
theorem En.refl {n0 : Nat} {h : H} : En n0 h h := ⟨Nat.le_refl _, fun _ _ => rfl, fun _ h _ => h⟩
theorem _root_.Go.Vi.Eff.en {n0 : Nat} {h h' : H} (a : Eff h h') (hn : n0 ≤ h.next) : En n0 h h' := ⟨a.next, fun j hj => a.get j (by omega), fun B h1 h2 => a.low B h1 (by omega)⟩

def eStep (s : St) (f : Nat → Option Int) (set : Nat) (acc : Int × Nat) (i : Nat) : Int × Nat :=
  if hi : i < s.ms.length then
    if set.testBit i then
      match f (del set (2 ^ i)) with
      | some n => if n < 0 then acc else if n < s.ms[i].start + s.ms[i].warm ∨ s.ms[i].last = 0 then acc else if n + s.ms[i].last ≤ acc.1 then acc else (n + s.ms[i].last, i)
      | none => acc
    else acc
  else acc
def eUpto (s : St) (f : Nat → Option Int) (set : Nat) : Nat → Int × Nat
  | 0 => (0, 0)
  | i + 1 => eStep s f set (eUpto s f set i) i
/-- until when, and the last one -/
def endsF (s : St) (f : Nat → Option Int) (set : Nat) : Int × Nat := eUpto s f set s.ms.length

def wEnv (t4 t5 t6 : Nat) : Env := [(4, .ptr t4 0), (5, .ptr t5 0), (6, .ptr t6 0)]
def wRec (t4 t5 t6 : Nat) : LoopRec := { state := .ready, pending := none, env := wEnv t4 t5 t6, params := [41, 42], assign := c30_a0, body := c30_b0 }
theorem ends_yield_no (t4 t5 t6 l m : Nat) (b u : Int) (h1 : H) (Fn : Nat → Option HObj) (n0 : Nat) (hl : l < n0) (hn : n0 ≤ h1.next) (gl : h1.get l = some (.loop (wRec t4 t5 t6))) (g4 : h1.get t4 = some (.cells [.int .i64 b]))
    (n4 : t4 ≠ l) (hb : u ≤ b) (hF : ∀ i, i < n0 → Fn i = h1.get i) :
    WY globs prog l [.int .i64 m, .int .i64 u] h1 fun v h2 _ => v = .bool true ∧ (∀ i, i < n0 → h2.get i = Fn i) ∧ n0 ≤ h2.next ∧ min h1.low l ≤ h2.low ∧ h2.low < n0 := by
  refine wy_body gl rfl (wp_r (by simp [wRec, wEnv]; rfl) ?_)
  refine ⟨rfl, _, gl, rfl, ?_⟩
  have c : ¬ b < u := by omega
  refine wp_block (wp_seq (wp_r (by simp [n4, g4, c]; rfl) ?_))
  refine wp_condF rfl (wp_skip ?_)
  refine ⟨{ wRec t4 t5 t6 with state := .busy }, by simp [gl], rfl, fun i hi => ?_, by simpa using hn, by simp [X.code]; omega, by simp; omega⟩
  rw [hF i hi]
  by_cases hil : i = l
  · subst hil; simp [gl, X.code, wRec]
  · simp [hil]
theorem ends_yield_yes (t4 t5 t6 l m k : Nat) (b u b5 : Int) (h1 : H) (Fn : Nat → Option HObj) (n0 : Nat) (hl : l < n0) (hn : n0 ≤ h1.next) (gl : h1.get l = some (.loop (wRec t4 t5 t6))) (g4 : h1.get t4 = some (.cells [.int .i64 b])) (g5 : h1.get t5 = some (.cells [.int .i64 b5])) (g6 : h1.get t6 = some (.cells [.int .i64 k]))
    (n4 : t4 ≠ l) (n5 : t5 ≠ l) (n6 : t6 ≠ l) (n45 : t4 ≠ t5) (n46 : t4 ≠ t6) (n56 : t5 ≠ t6) (hb : b < u) (f4 : Fn t4 = some (.cells [.int .i64 u])) (f5 : Fn t5 = some (.cells [.int .i64 k])) (hF : ∀ i, i < n0 → i ≠ t4 → i ≠ t5 → Fn i = h1.get i) :
    WY globs prog l [.int .i64 m, .int .i64 u] h1 fun v h2 _ => v = .bool true ∧ (∀ i, i < n0 → h2.get i = Fn i) ∧ n0 ≤ h2.next ∧ min h1.low (min l (min t4 t5)) ≤ h2.low ∧ h2.low < n0 := by
  have n54 : t5 ≠ t4 := n45.symm
  have n64 : t6 ≠ t4 := n46.symm
  have n65 : t6 ≠ t5 := n56.symm
  have l4 : l ≠ t4 := n4.symm
  have l5 : l ≠ t5 := n5.symm
  refine wy_body gl rfl (wp_r (by simp [wRec, wEnv]; rfl) ?_)
  refine ⟨rfl, _, gl, rfl, ?_⟩
  refine wp_block (wp_seq (wp_r (by simp [n4, g4, hb]; rfl) ?_))
  refine wp_condT rfl (wp_r (by simp [n4, g4, n5, g5, n6, g6, n45, n46, n56, n54, n64, n65]; rfl) ?_)
  refine ⟨{ wRec t4 t5 t6 with state := .busy }, by simp [gl, l4, l5], rfl, fun i hi => ?_, by simpa using hn, by simp [X.code]; omega, by simp; omega⟩
  by_cases hil : i = l
  · subst hil
    rw [hF i hi l4 l5]
    simp [gl, X.code, wRec, l4, l5]
  · by_cases hi4 : i = t4
    · subst hi4
      rw [f4]
      simp [n4, g4, n45]
    · by_cases hi5 : i = t5
      · subst hi5
        rw [f5]
        simp [n5, g5, n54]
      · rw [hF i hi hi4 hi5]
        simp [hil, hi4, hi5]

def kEnv (s : St) (set p1 t4 t5 i : Nat) : Env := [(1, .int .i64 set), (2, .ptr p1 0), (4, .ptr t4 0), (5, .ptr t5 0), (14, .int .i64 s.ms.length), (15, .int .i64 i)]
structure EHeap (s : St) (F L p1 t4 t5 n0 : Nat) (f : Nat → Option Int) (acc : Int × Nat) (h : H) : Prop where
  n0 : n0 ≤ h.next
  l1 : p1 < h.next
  l4 : t4 < h.next
  l5 : t5 < h.next
  g1 : h.get p1 = some (.cells (stC s F L))
  lF : F < h.next
  mF : ∃ es, h.get F = some (.map es) ∧ MapRep es f
  g4 : h.get t4 = some (.cells [.int .i64 acc.1])
  g5 : h.get t5 = some (.cells [.int .i64 acc.2])
theorem EHeap.eff {s : St} {F L p1 t4 t5 n0 : Nat} {f : Nat → Option Int} {acc : Int × Nat} {h h' : H} (a : EHeap s F L p1 t4 t5 n0 f acc h) (e : Eff h h') : EHeap s F L p1 t4 t5 n0 f acc h' := by
  obtain ⟨a1, a2, a3, a4, a5, a6, ⟨es, gF, rF⟩, a8, a9⟩ := a
  have := e.next
  exact ⟨by omega, by omega, by omega, by omega, (e.get _ a2).trans a5, by omega, ⟨es, (e.get _ a6).trans gF, rF⟩, (e.get _ a3).trans a8, (e.get _ a4).trans a9⟩
theorem ends_loop (s : St) (F L p1 t4 t5 set n0 : Nat) (f : Nat → Option Int) (hs : s.ok) (hset : set < 256) (hall : ∀ u, u ≤ set → f u ≠ none) (hbd : ∀ u n, f u = some n → -1 ≤ n ∧ n ≤ 500 * (u : Int)) (h1 : n0 ≤ p1) (h4 : n0 ≤ t4) (h5 : n0 ≤ t5) (h45 : t4 ≠ t5) (h14 : p1 ≠ t4) (h15 : p1 ≠ t5) (hF4 : F ≠ t4) (hF5 : F ≠ t5) :
    ∀ (kk i : Nat) (h : H), i + kk = s.ms.length → EHeap s F L p1 t4 t5 n0 f (eUpto s f set i) h →
    WP globs prog none c30_l0 (kEnv s set p1 t4 t5 i) h fun x e' h' => x = .exit 0 ∧ alook 4 e' = some (.ptr t4 0) ∧ alook 5 e' = some (.ptr t5 0) ∧ EHeap s F L p1 t4 t5 n0 f (endsF s f set) h' ∧ En n0 h h'
  | 0, i, h, hi, hh => by
    have : i = s.ms.length := by omega
    subst this
    refine wp_loop (wp_seq (wp_r (by simp [kEnv]; rfl) ?_))
    refine wp_seq (wp_condF rfl (wp_exit ?_))
    exact ⟨rfl, rfl, rfl, hh, En.refl⟩
  | kk + 1, i, h, hi, hh => by
    have hlt : i < s.ms.length := by omega
    have hs' := hs
    obtain ⟨s1, s2, s3, s4, s5, s6, s7⟩ := hs'
    have next : ∀ (e' : Env) (h' : H) (acc : Int × Nat), acc = eUpto s f set (i + 1) → (∀ j ∈ ([1, 2, 4, 5, 14, 15] : List Nat), alook j e' = alook j (kEnv s set p1 t4 t5 i)) → EHeap s F L p1 t4 t5 n0 f acc h' → En n0 h h' →
        WP globs prog none c30_l0.l.r.r.r e' h' (thenQ globs prog none c30_l0 fun x e' h' => x = .exit 0 ∧ alook 4 e' = some (.ptr t4 0) ∧ alook 5 e' = some (.ptr t5 0) ∧ EHeap s F L p1 t4 t5 n0 f (endsF s f set) h' ∧ En n0 h h') := by
      intro e' h' acc hacc hj q1 q2
      subst hacc
      have w1 : IntKind.wrap .i64 (i + 1 : Int) = ((i + 1 : Nat) : Int) := by rw [wrap64] <;> omega
      have j1 := hj 1 (by simp); have j2 := hj 2 (by simp); have j4 := hj 4 (by simp); have j5 := hj 5 (by simp); have j14 := hj 14 (by simp); have j15 := hj 15 (by simp)
      simp only [kEnv] at j1 j2 j4 j5 j14 j15
      refine wp_r (by simp [j1, j2, j4, j5, j14, j15, w1, -Int.natCast_add]; rfl) ?_
      refine (ends_loop s F L p1 t4 t5 set n0 f hs hset hall hbd h1 h4 h5 h45 h14 h15 hF4 hF5 kk (i + 1) h' (by omega) q1).mono ?_
      rintro x e'' h'' ⟨r0, r1, r2, r3, r4⟩
      exact ⟨r0, r1, r2, r3, q2.trans r4⟩
    have hstep : eUpto s f set (i + 1) = eStep s f set (eUpto s f set i) i := rfl
    generalize hacc : eUpto s f set i = acc at *
    refine wp_loop (wp_seq (wp_r (by simp [kEnv, hlt]; rfl) ?_))
    refine wp_seq (wp_condT rfl (wp_skip ?_))
    refine wp_seq (wp_block (wp_seq (wp_r (by simp; rfl) ?_)))
    have hE : ∀ o, Eff h ((h.new (.cells [.int .i64 0])).set h.next o) := fun o => Eff.set Eff.new (Nat.le_refl _)
    have hshr := ar_shr' (a := set) (k := i) (by omega)
    have hand := ar_bit (a := set) i (by omega)
    have h1n : h.next + 1 ≤ ((h.new (.cells [.int .i64 0])).set h.next (.cells [.int .i64 i])).next := by simp
    have h1g : ((h.new (.cells [.int .i64 0])).set h.next (.cells [.int .i64 i])).get h.next = some (.cells [.int .i64 i]) := by simp
    have e1 := hE (.cells [.int .i64 i])
    generalize (h.new (.cells [.int .i64 0])).set h.next (.cells [.int .i64 i]) = hA at *
    have mA := hh.eff e1
    have n0h := hh.n0
    have l1 := hh.l1; have l4 := hh.l4; have l5 := hh.l5; have lF := hh.lF
    cases hbit : set.testBit i
    · rw [hbit] at hand
      refine wp_seq (wp_seq (wp_r (by simp [h1g, hshr, hand]; rfl) ?_))
      refine wp_condT rfl (wp_exit ?_)
      exact next _ hA acc (by rw [hstep]; simp [eStep, hlt, hbit]) (by simp [kEnv]) mA (e1.en n0h)
    rw [hbit] at hand
    refine wp_seq (wp_seq (wp_r (by simp [h1g, hshr, hand]; rfl) ?_))
    refine wp_condF rfl (wp_skip ?_)
    have hdel := del_lt hbit
    have hshl := ar_shl (b := i) (by omega)
    have hpw : 2 ^ i ≤ 2 ^ 8 := Nat.pow_le_pow_right (by omega) (by omega)
    have han := ar_andNot (a := set) (b := 2 ^ i) (by omega) (by omega)
    obtain ⟨n, hn⟩ : ∃ n, f (del set (2 ^ i)) = some n := by
      cases hf : f (del set (2 ^ i)) with
      | none => exact absurd hf (hall _ (by omega))
      | some n => exact ⟨n, rfl⟩
    obtain ⟨b1, b2⟩ := hbd _ _ hn
    have hst : eUpto s f set (i + 1) = if n < 0 then acc else if n < s.ms[i].start + s.ms[i].warm ∨ s.ms[i].last = 0 then acc else if n + s.ms[i].last ≤ acc.1 then acc else (n + s.ms[i].last, i) := by
      rw [hstep]; simp [eStep, hlt, hbit, hn]
    generalize hpe : (2 ^ i : Nat) = pw at *
    refine wp_seq (wp_r (by simp [h1g, hshl, han]; rfl) ?_)
    have y1 := mA.g1
    obtain ⟨es, gF, rF⟩ := mA.mF
    have hk : keyOk true [some .i64, some .i64] (.agg [.int .i64 (del set pw : Nat), .int .i64 (cnt (del set pw))]) = true := keyOk_key _
    have hlk : mlook (.agg [.int .i64 (del set pw : Nat), .int .i64 (cnt (del set pw))]) es = some (some (.int .i64 n)) := by
      have := rF.look (del set pw)
      rw [hn] at this
      exact this
    refine wp_seq (wp_rc ?_)
    refine wo_p (by simp [y1, stC]; rfl) ?_
    refine wo_fn (count_run (del set pw) _ (by omega)) (by simp) (by simp) (by simp [y1, stC]) ?_
    refine wo_p (by simp [hk, hlk, mapOf, gF, lookRes]; rfl) ?_
    refine wo_m (by simp; rfl) ?_
    by_cases hneg : n < 0
    · refine wp_seq (wp_seq (wp_r (by simp [hneg]; rfl) ?_))
      refine wp_condT rfl (wp_exit ?_)
      exact next _ hA acc (by rw [hst, if_pos hneg]) (by simp [kEnv]) mA (e1.en n0h)
    refine wp_seq (wp_seq (wp_r (by simp [hneg]; rfl) ?_))
    refine wp_condF rfl (wp_skip ?_)
    refine wp_seq (wp_rc ?_)
    refine wo_p (by simp [y1, h1g, hshl, stC]; rfl) ?_
    refine wo_call (k := 67) (first := []) (args := [stV s F L, .int .i64 (pw : Int), .int .i64 n, .int .i64 1]) (caps := []) (by simp) (by simp) (by simp [stV]) ((follow_run s F L _ n 1 hA).mono ?_)
    rintro v h3 p ⟨rfl, k1, k2, k3, k4, k5, k6, k7⟩
    refine ⟨fun h => (by cases h), by simp, ?_⟩
    refine wo_p (by simp; rfl) ?_
    refine wo_m (by simp; rfl) ?_
    have e3 : Eff hA h3 := ⟨by omega, k7, fun B q1 q2 => by rcases k2 with k2 | k2 <;> omega⟩
    have m3 := mA.eff e3
    have v10 := (e3.get _ (by omega)).trans h1g
    refine wp_block (wp_range (g := 106) (first := []) (caps := [.ptr hA.next 0, .ptr (hA.next + 1) 0, .ptr (hA.next + 2) 0, .ptr (hA.next + 3) 0]) (by simp) rfl ?_)
    show WC globs prog 106 [.yield h3.next, .ptr hA.next 0, .ptr (hA.next + 1) 0, .ptr (hA.next + 2) 0, .ptr (hA.next + 3) 0] (h3.new (.loop (wRec t4 t5 h.next))) _
    have l3 : hA.next < h3.next := by omega
    have eN : Eff h3 (h3.new (.loop (wRec t4 t5 h.next))) := Eff.new
    have gl : (h3.new (.loop (wRec t4 t5 h.next))).get h3.next = some (.loop (wRec t4 t5 h.next)) := by simp
    have nN : (h3.new (.loop (wRec t4 t5 h.next))).next = h3.next + 1 := rfl
    have lN : (h3.new (.loop (wRec t4 t5 h.next))).low = h3.low := rfl
    generalize h3.new (.loop (wRec t4 t5 h.next)) = hB at *
    have fh : FHeap s F L i hA.next (hA.next + 1) (hA.next + 2) (hA.next + 3) n 1 hB :=
      ⟨by omega, by omega, by omega, by omega, (eN.get _ (by omega)).trans k3, by rw [hpe]; exact (eN.get _ (by omega)).trans k4, (eN.get _ (by omega)).trans k5, (eN.get _ (by omega)).trans k6⟩
    have hbd' : -100000 ≤ n ∧ n ≤ 1000000 := by omega
    have hmi := s7 s.ms[i] (List.getElem_mem _)
    have q2 := last_bd hmi
    have keep : ∀ h5 : H, acc = eUpto s f set (i + 1) → (∀ j, j < hB.next → h5.get j = hB.get j) → hB.next ≤ h5.next → min hB.low h3.next ≤ h5.low → ∃ q, h5.get h3.next = some (.loop q) ∧ q.state ≠ .busy ∧
        blockQ 2 (blockQ 1 (thenQ globs prog none c30_l0.l.r.r.r (thenQ globs prog none c30_l0 fun x e' h' => x = .exit 0 ∧ alook 4 e' = some (.ptr t4 0) ∧ alook 5 e' = some (.ptr t5 0) ∧ EHeap s F L p1 t4 t5 n0 f (endsF s f set) h' ∧ En n0 h h')))
          (match q.pending with | none => .normal | some .ret => .ret | some (.exit id) => .exit id)
          ((1, .int .i64 set) :: (2, .ptr p1 0) :: (4, .ptr t4 0) :: (5, .ptr t5 0) :: (6, .ptr h.next 0) :: (14, .int .i64 s.ms.length) :: (15, .int .i64 i) :: (40, .func 106 [] [.ptr hA.next 0, .ptr (hA.next + 1) 0, .ptr (hA.next + 2) 0, .ptr (hA.next + 3) 0]) :: []) (h5.set h3.next .dead) := by
      intro h5 ha r1 r2 r3
      refine ⟨wRec t4 t5 h.next, (r1 _ (by omega)).trans gl, by simp [wRec], ?_⟩
      have e5 : Eff h3 (h5.set h3.next .dead) := by
        refine Eff.set (h' := h5) ⟨by omega, fun j hj => ?_, fun B c1 c2 => by omega⟩ (Nat.le_refl _)
        rw [r1 j (by omega), eN.get j hj]
      exact next _ _ acc ha (by simp [kEnv]) (m3.eff e5) (((e1.trans e3).trans e5).en n0h)
    by_cases hc : n < s.ms[i].start + s.ms[i].warm ∨ s.ms[i].last = 0
    · refine (fno1 s F L i _ _ _ _ _ n hB hs (by omega) hbd' fh fun _ => hc).mono ?_
      rintro v h5 p he
      exact keep h5 (by rw [hst, if_neg hneg, if_pos hc]) he.get he.next (he.low _ (by omega) (by omega))
    have hc1 : s.ms[i].start + s.ms[i].warm ≤ n := by omega
    have hc2 : s.ms[i].last ≠ 0 := fun e => hc (.inr e)
    have v4 : h3.get t4 = some (.cells [.int .i64 acc.1]) := m3.g4
    have v5 : h3.get t5 = some (.cells [.int .i64 acc.2]) := m3.g5
    have l43 := m3.l4; have l53 := m3.l5
    by_cases hb : n + s.ms[i].last ≤ acc.1
    · refine (fone1 s F L i _ _ _ _ h3.next h3.next n hB hB.get hs (by omega) hbd' fh hlt hc1 hc2 rfl rfl rfl rfl (fun h5 he => ?_) (by omega)).mono ?_
      · obtain ⟨v, h6, p, hr, c1, c2, c3, c4, c5⟩ := ends_yield_no t4 t5 h.next h3.next i acc.1 _ h5 hB.get hB.next (by omega) he.next ((he.get _ (by omega)).trans gl) ((he.get _ (by omega)).trans ((eN.get _ (by omega)).trans v4)) (by omega) hb fun j hj => (he.get j hj).symm
        exact ⟨v, h6, p, hr, c1, c2, c3, by have := he.low (min hB.low h3.next) (by omega) (by omega); omega, c5⟩
      · rintro v h5 p ⟨r1, r2, r3⟩
        exact keep h5 (by rw [hst, if_neg hneg, if_neg hc, if_pos hb]) r1 r2 r3
    · have hFn : ∀ j, (fun j => if j = t4 then some (HObj.cells [.int .i64 (n + s.ms[i].last)]) else if j = t5 then some (.cells [.int .i64 i]) else hB.get j) j = if j = t4 then some (HObj.cells [.int .i64 (n + s.ms[i].last)]) else if j = t5 then some (.cells [.int .i64 i]) else hB.get j := fun _ => rfl
      generalize (fun j => if j = t4 then some (HObj.cells [.int .i64 (n + s.ms[i].last)]) else if j = t5 then some (.cells [.int .i64 i]) else hB.get j) = Fn at hFn
      have hF0 : ∀ j, j ≠ t4 → j ≠ t5 → Fn j = hB.get j := fun j q1 q2 => by rw [hFn, if_neg q1, if_neg q2]
      have f4 : Fn t4 = some (HObj.cells [.int .i64 (n + s.ms[i].last)]) := by rw [hFn, if_pos rfl]
      have f5 : Fn t5 = some (.cells [.int .i64 i]) := by rw [hFn, if_neg h45.symm, if_pos rfl]
      refine (fone1 s F L i _ _ _ _ h3.next (min h3.next (min t4 t5)) n hB Fn hs (by omega) hbd' fh hlt hc1 hc2 (hF0 _ (by omega) (by omega)) (hF0 _ (by omega) (by omega)) (hF0 _ (by omega) (by omega)) (hF0 _ (by omega) (by omega)) (fun h5 he => ?_) (by omega)).mono ?_
      · obtain ⟨v, h6, p, hr, c1, c2, c3, c4, c5⟩ := ends_yield_yes t4 t5 h.next h3.next i i acc.1 _ acc.2 h5 Fn hB.next (by omega) he.next ((he.get _ (by omega)).trans gl) ((he.get _ (by omega)).trans ((eN.get _ (by omega)).trans v4)) ((he.get _ (by omega)).trans ((eN.get _ (by omega)).trans v5)) ((he.get _ (by omega)).trans ((eN.get _ (by omega)).trans v10))
          (by omega) (by omega) (by omega) h45 (by omega) (by omega) (by omega : acc.1 < n + s.ms[i].last) f4 f5 (fun j hj q1 q2 => (hF0 j q1 q2).trans (he.get j hj).symm)
        exact ⟨v, h6, p, hr, c1, c2, c3, by have := he.low (min hB.low (min h3.next (min t4 t5))) (by omega) (by omega); omega, c5⟩
      · rintro v h5 p ⟨r1, r2, r3⟩
        refine ⟨wRec t4 t5 h.next, by rw [r1 _ (by omega), hF0 _ (by omega) (by omega), gl], by simp [wRec], ?_⟩
        have gd : ∀ j, j < h3.next → (h5.set h3.next .dead).get j = Fn j := fun j hj => by
          rw [get_set, if_neg (by omega), r1 j (by omega)]
        have g3j : ∀ j, j < h3.next → j ≠ t4 → j ≠ t5 → (h5.set h3.next .dead).get j = h3.get j := fun j hj q1 q2 => by rw [gd j hj, hF0 j q1 q2, eN.get j hj]
        have nx : (h5.set h3.next .dead).next = h5.next := rfl
        obtain ⟨es3, gF3, rF3⟩ := m3.mF
        have c1 := m3.l1; have c2 := m3.lF; have c3 := m3.n0
        refine next _ _ (n + s.ms[i].last, i) (by rw [hst, if_neg hneg, if_neg hc, if_neg hb]) (by simp [kEnv]) ⟨by omega, by omega, by omega, by omega, (g3j _ c1 h14 h15).trans m3.g1, by omega, ⟨es3, (g3j _ c2 hF4 hF5).trans gF3, rF3⟩, by rw [gd _ l43, f4], by rw [gd _ l53, f5]⟩ ?_
        refine ((e1.trans e3).en n0h).trans ⟨by omega, fun j hj => g3j j (by omega) (by omega) (by omega), fun B d1 d2 => ?_⟩
        show B ≤ min h3.next h5.low
        omega

theorem ends_run (s : St) (F L set : Nat) (f g : Nat → Option Int) (h : H) (hs : s.ok) (o : Opened s F L f g h) (hset : set < 2 ^ s.ms.length) :
    WC globs prog 30 [stV s F L, .int .i64 set] h fun v h' p => v = .tuple [.int .i64 (endsF s f set).1, .int .i64 (endsF s f set).2] ∧ h' = h ∧ p = true := by
  have hs' := hs
  obtain ⟨s1, s2, s3, s4, s5, s6, s7⟩ := hs'
  have hp : 2 ^ s.ms.length ≤ 2 ^ 8 := Nat.pow_le_pow_right (by omega) s6
  refine wc_pure (fn := c30) rfl rfl ?_
  refine wp_seq (wp_r (by simp [stV]; rfl) ?_)
  refine wp_seq (wp_seq (wp_r (by simp; rfl) ?_))
  have lF := o.lF
  obtain ⟨es, gF, rF⟩ := o.mF
  have a0 : F ≠ h.next := by omega
  have a1 : F ≠ h.next + 1 := by omega
  have a2 : F ≠ h.next + 1 + 1 := by omega
  refine wp_block ((ends_loop s F L h.next (h.next + 1) (h.next + 2) set h.next f hs (by omega) (fun u hu => o.all u (by omega)) (fun u n hu => ⟨(o.good u n hu).1, (o.good u n hu).2.1⟩) (by omega) (by omega) (by omega) (by omega) (by omega) (by omega) a1 a2 s.ms.length 0 _ (by omega)
    ⟨by simp <;> omega, by simp <;> omega, by simp <;> omega, by simp <;> omega, by simp [stC], by simp <;> omega, ⟨es, by simp [a0, a1, a2, gF], rF⟩, by simp [eUpto], by simp [eUpto]⟩).mono ?_)
  rintro x e' h' ⟨rfl, j4, j5, eh, en⟩
  have g4 := eh.g4
  have g5 := eh.g5
  have lw := en.low h.next (by simp) (Nat.le_refl _)
  refine wp_seq (wp_r (by simp [j4, j5, g4, g5]; rfl) ?_)
  refine wp_ret ?_
  simp [c30, g4, g5]
  omega

def fwEnv (p1 among best set : Nat) : Env := [(1, .int .i64 among), (2, .ptr p1 0), (5, .int .i64 best), (6, .int .i64 set)]
def fwOk (s : St) (f : Nat → Option Int) (among best : Nat) : Prop := best = 0 ∨ (best ≤ among ∧ s.hours ≤ (endsF s f best).1)
theorem fewest_loop (s : St) (F L p1 among n0 : Nat) (f g : Nat → Option Int) (hs : s.ok) (ham : among < 2 ^ s.ms.length) : ∀ (set best : Nat) (h : H), set ≤ among → fwOk s f among best → best < 256 → Opened s F L f g h → h.get p1 = some (.cells (stC s F L)) → n0 ≤ h.low →
    WP globs prog none c28_l0 (fwEnv p1 among best set) h fun x e' h' => x = .exit 0 ∧ ∃ best', alook 5 e' = some (.int .i64 (best' : Nat)) ∧ fwOk s f among best' ∧ n0 ≤ h'.low := by
  intro set
  induction set using Nat.strongRecOn with
  | _ set ih =>
    intro best h hset hb hb8 o g1 hl
    have hs' := hs
    obtain ⟨s1, s2, s3, s4, s5, s6, s7⟩ := hs'
    have hp : 2 ^ s.ms.length ≤ 2 ^ 8 := Nat.pow_le_pow_right (by omega) s6
    by_cases hz : 0 < set
    · have w2 : IntKind.wrap .i64 (set - 1 : Int) = ((set - 1 : Nat) : Int) := by rw [wrap64] <;> omega
      have hand := ar_and (a := set - 1) (b := among) (by omega) (by omega)
      have hle : (set - 1) &&& among ≤ set - 1 := Nat.and_le_left
      have next : ∀ (b' : Nat) (ex : Env), fwOk s f among b' → b' < 256 → WP globs prog none c28_l0.l.r.r ([(1, .int .i64 among), (2, .ptr p1 0), (5, .int .i64 b')] ++ (6, .int .i64 set) :: ex) h (thenQ globs prog none c28_l0 fun x e' h' => x = .exit 0 ∧ ∃ best', alook 5 e' = some (.int .i64 (best' : Nat)) ∧ fwOk s f among best' ∧ n0 ≤ h'.low) := by
        intro b' ex q1 q2
        refine wp_r (by simp [w2, hand]; rfl) ?_
        exact ih _ (by omega) b' h (by omega) q1 q2 o g1 hl
      refine wp_loop (wp_seq (wp_seq (wp_r (by simp [fwEnv, hz]; rfl) ?_)))
      refine wp_condT rfl (wp_skip ?_)
      refine wp_seq (wp_block (wp_seq (wp_rc ?_)))
      refine wo_p (by simp [g1, stC]; rfl) ?_
      refine wo_fn (ends_run s F L set f g h hs o (by omega)) (by simp) (by simp [stV]) (by simp) ?_
      refine wo_p (by simp; rfl) ?_
      refine wo_m (by simp; rfl) ?_
      refine wp_seq (wp_rc ?_)
      by_cases c1 : s.hours ≤ (endsF s f set).1
      · have ok1 : fwOk s f among set := .inr ⟨by omega, c1⟩
        by_cases c2 : best = 0
        · have cz : ((best : Int) == 0) = true := by simp [c2]
          refine wo_p (by simp [g1, stC, c1, cz]; rfl) ?_
          refine wo_m (by simp; rfl) ?_
          refine wp_condT rfl (wp_r (by simp; rfl) ?_)
          exact next set [] ok1 (by omega)
        · have cz : ((best : Int) == 0) = false := by simp [c2]
          refine wo_p (by simp [g1, stC, c1, cz]; rfl) ?_
          refine wo_fn (count_run set _ (by omega)) (by simp) (by simp) (by simp) ?_
          refine wo_p (by simp; rfl) ?_
          refine wo_fn (count_run best _ (by omega)) (by simp) (by simp) (by simp) ?_
          refine wo_p (by simp; rfl) ?_
          refine wo_m (by simp; rfl) ?_
          by_cases c3 : cnt set < cnt best
          · refine wp_condT (by simp [c3]) (wp_r (by simp; rfl) ?_)
            exact next set [] ok1 (by omega)
          · refine wp_condF (by simp; omega) (wp_skip ?_)
            exact next best [(37, .bool (decide (cnt set < cnt best)))] hb hb8
      · refine wo_p (by simp [g1, stC, c1]; rfl) ?_
        refine wo_m (by simp; rfl) ?_
        refine wp_condF rfl (wp_skip ?_)
        exact next best [(37, .bool false)] hb hb8
    · have : set = 0 := by omega
      subst this
      refine wp_loop (wp_seq (wp_seq (wp_r (by simp [fwEnv]; rfl) ?_)))
      refine wp_condF rfl (wp_exit ?_)
      exact ⟨rfl, best, rfl, hb, hl⟩
theorem fewest_run (s : St) (F L among : Nat) (f g : Nat → Option Int) (h : H) (hs : s.ok) (o : Opened s F L f g h) (ham : among < 2 ^ s.ms.length) :
    WC globs prog 28 [stV s F L, .int .i64 among] h fun v h' p => ∃ best : Nat, v = .int .i64 best ∧ fwOk s f among best ∧ h' = h ∧ p = true := by
  refine wc_pure (fn := c28) rfl rfl ?_
  refine wp_seq (wp_r (by simp [stV]; rfl) ?_)
  refine wp_seq (wp_r (by simp; rfl) ?_)
  refine wp_seq (wp_seq (wp_r (by simp; rfl) ?_))
  have o1 : Opened s F L f g (({ h with low := h.next } : H).new (.cells [.int .i64 s.hours, .int .i64 s.gap, .slice 5 (s.ms.map M.v) s.t, .map F, .map L])) := (o.eff Eff.relow).eff Eff.new
  refine wp_block ((fewest_loop s F L h.next among h.next f g hs ham among 0 _ (Nat.le_refl _) (.inl rfl) (by omega) o1 (by simp [stC]) (by simp)).mono ?_)
  rintro x e' h' ⟨rfl, best, j5, hb, hl⟩
  refine wp_seq (wp_r (by simp [j5]; rfl) ?_)
  refine wp_ret ?_
  refine ⟨.inr rfl, [.int .i64 best], rfl, by simp, hl, best, rfl, hb, rfl, rfl⟩
end Go.Vi.Tryd
