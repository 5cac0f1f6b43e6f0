/- Beat's opened: the places of all spots. No statement of a claim stands here. -/
import Derived.Test.YtngcbeckobfaaaaDoorBa
set_option linter.unusedSimpArgs false
set_option linter.unusedVariables false
namespace Go.Vi.Tryd
open Go Go.Vi
attribute [local simp] reg pre guarded isCall ev again Env.put alook bindArgs Opd.val ar_add ar_sub ar_mul ar_quo ar_rem ar_eql ar_neq ar_lss ar_leq ar_gtr ar_geq Env.mask List.filterMap ressOf resOf pack V.clasp sealL V.top topL get_new get_set next_new next_set low_new low_set low_mk next_mk get_mk vals sub V.isAgg V.cells V.cell1 setRange bnd ival bval fillIn minmax Nat.ne_of_lt ne2 ne3 ne4 ne5 ne6 V.same sameL Nat.beq_refl

theorem eqv_spot (a b c d : Int) : eqv (spot a b) (spot c d) = some (a == c && b == d) := by
  cases h1 : a == c <;> cases h2 : b == d <;> simp [spot, eqv, eqL, eq1, h1, h2]
def spotsOk (es : List (V × V)) : Prop := ∀ x ∈ es, ∃ a b n, x = (spot a b, V.int .i64 n)
theorem slook_cons (a b c d : Int) (v : V) (es : List (V × V)) : mlook (spot a b) ((spot c d, v) :: es) = if a = c ∧ b = d then some (some v) else mlook (spot a b) es := by
  simp only [mlook, eqv_spot]
  cases h1 : a == c <;> cases h2 : b == d <;> simp_all
theorem sset_new (a b n : Int) : ∀ (es : List (V × V)), spotsOk es → mlook (spot a b) es = some none → mset (spot a b) (.int .i64 n) es = some (es ++ [(spot a b, .int .i64 n)])
  | [], _, _ => rfl
  | x :: es, hk, hl => by
    obtain ⟨c, d, m, rfl⟩ := hk x (List.mem_cons_self ..)
    rw [slook_cons] at hl
    split at hl
    · cases hl
    · rename_i hne
      have ih := sset_new a b n es (fun y hy => hk y (List.mem_cons_of_mem _ hy)) hl
      have : (a == c && b == d) = false := by
        cases h1 : a == c <;> cases h2 : b == d <;> simp_all
      simp [mset, eqv_spot, this, ih]
theorem slook_app (a b c d : Int) (v : V) : ∀ (es : List (V × V)), spotsOk es → mlook (spot c d) es = some none → mlook (spot a b) (es ++ [(spot c d, v)]) = if a = c ∧ b = d then some (some v) else mlook (spot a b) es
  | [], _, _ => by simp [slook_cons, mlook]
  | x :: es, hk, hl => by
    obtain ⟨c', d', m, rfl⟩ := hk x (List.mem_cons_self ..)
    rw [slook_cons] at hl
    split at hl
    · cases hl
    · rename_i hne
      have ih := slook_app a b c d v es (fun y hy => hk y (List.mem_cons_of_mem _ hy)) hl
      rw [List.cons_append, slook_cons, slook_cons, ih]
      by_cases h : a = c' ∧ b = d'
      · rw [if_pos h, if_pos h, if_neg]
        rintro ⟨h1, h2⟩
        exact hne ⟨h1.symm.trans h.1, h2.symm.trans h.2⟩
      · rw [if_neg h, if_neg h]

/-- the places given so far -/
structure PRep (H k hh : Nat) (es : List (V × V)) : Prop where
  keys : spotsOk es
  truth : mlook (spot (-1) 0) es = some (some (.int .i64 0))
  old : ∀ k' h' : Nat, h' ≤ H → (k' < k ∨ (k' = k ∧ h' < hh)) → mlook (spot k' h') es = some (some (.int .i64 ((1 + k' * (H + 1) + h' : Nat) : Int)))
  new : ∀ k' h' : Nat, h' ≤ H → ¬ (k' < k ∨ (k' = k ∧ h' < hh)) → mlook (spot k' h') es = some none
  len : es.length = 1 + k * (H + 1) + hh
theorem PRep.step {H k hh : Nat} {es : List (V × V)} (p : PRep H k hh es) (hh' : hh ≤ H) : mset (spot k hh) (.int .i64 ((es.length : Nat) : Int)) es = some (es ++ [(spot k hh, .int .i64 ((es.length : Nat) : Int))]) ∧ PRep H k (hh + 1) (es ++ [(spot k hh, .int .i64 ((es.length : Nat) : Int))]) := by
  have hn := p.new k hh hh' (by omega)
  refine ⟨sset_new _ _ _ es p.keys hn, ?_, ?_, ?_, ?_, ?_⟩
  · intro x hx
    rcases List.mem_append.1 hx with hx | hx
    · exact p.keys x hx
    · rw [List.mem_singleton.1 hx]; exact ⟨_, _, _, rfl⟩
  · rw [slook_app _ _ _ _ _ es p.keys hn, if_neg (by omega)]; exact p.truth
  · intro k' h' h1 h2
    rw [slook_app _ _ _ _ _ es p.keys hn]
    by_cases he : (k' : Int) = k ∧ (h' : Int) = hh
    · have e1 : k' = k := by omega
      have e2 : h' = hh := by omega
      subst e1; subst e2
      rw [if_pos he, p.len]
    · rw [if_neg he]
      exact p.old k' h' h1 (by omega)
  · intro k' h' h1 h2
    rw [slook_app _ _ _ _ _ es p.keys hn, if_neg (by omega)]
    exact p.new k' h' h1 (by omega)
  · simp [p.len]; omega
theorem PRep.next {H k : Nat} {es : List (V × V)} (p : PRep H k (H + 1) es) : PRep H (k + 1) 0 es :=
  ⟨p.keys, p.truth, fun k' h' h1 h2 => p.old k' h' h1 (by omega), fun k' h' h1 h2 => p.new k' h' h1 (by omega), by rw [p.len, Nat.add_mul]; omega⟩

def pEnv (p2 p4 p5 k H hh : Nat) : Env := [(2, .ptr p2 0), (4, .ptr p4 0), (5, .ptr p5 0), (6, .int .i64 k), (16, .int .i64 2), (17, .int .i64 k), (22, .int .i64 ((H + 1 : Nat) : Int)), (23, .int .i64 hh)]
theorem places_inner (c : Ce) (p2 p4 p5 P k n0 : Nat) (hH : c.H ≤ 12) (hP0 : n0 ≤ P) : ∀ (kk hh : Nat) (h : H) (es : List (V × V)), hh + kk = c.H + 1 → PRep c.H k hh es → h.get p5 = some (.cells (c.cs6 P)) → h.get P = some (.map es) → p5 ≠ P →
    WP globs prog none c77_l1 (pEnv p2 p4 p5 k c.H hh) h fun x e' h' => x = .exit 2 ∧ (∀ j ∈ ([2, 4, 5, 16, 17] : List Nat), alook j e' = alook j (pEnv p2 p4 p5 k c.H 0)) ∧ ∃ es', PRep c.H k (c.H + 1) es' ∧ h'.get P = some (.map es') ∧ (∀ j, j ≠ P → h'.get j = h.get j) ∧ h'.next = h.next ∧ (∀ B, B ≤ h.low → B ≤ n0 → B ≤ h'.low)
  | 0, hh, h, es, hi, p, g5, gP, hne => by
    have : hh = c.H + 1 := by omega
    subst this
    refine wp_loop (wp_seq (wp_r (by simp [pEnv]; rfl) ?_))
    refine wp_seq (wp_condF rfl (wp_exit ?_))
    exact ⟨rfl, by simp [pEnv], es, p, gP, fun _ _ => rfl, rfl, fun _ h _ => h⟩
  | kk + 1, hh, h, es, hi, p, g5, gP, hne => by
    have hlt : hh < c.H + 1 := by omega
    obtain ⟨hs, p'⟩ := p.step (by omega)
    have hk : keyOk true [some .i64, some .i64] (.agg [.int .i64 k, .int .i64 hh]) = true := rfl
    have hs' : mset (.agg [.int .i64 k, .int .i64 hh]) (.int .i64 ((es.length : Nat) : Int)) es = some (es ++ [(spot k hh, .int .i64 ((es.length : Nat) : Int))]) := hs
    have w1 : IntKind.wrap .i64 (hh + 1 : Int) = ((hh + 1 : Nat) : Int) := by rw [wrap64] <;> omega
    have hlt' : (hh : Int) < (c.H : Int) + 1 := by omega
    refine wp_loop (wp_seq (wp_r (by simp [pEnv, hlt']; rfl) ?_))
    refine wp_seq (wp_condT rfl (wp_skip ?_))
    refine wp_seq (wp_block (wp_seq (wp_r (by simp; rfl) ?_)))
    refine wp_r (by simp [g5, Ce.cs6, gP, mapOf, hk, hs']; rfl) ?_
    refine wp_r (by simp [w1, -Int.natCast_add]; rfl) ?_
    refine (places_inner c p2 p4 p5 P k n0 hH hP0 kk (hh + 1) _ _ (by omega) p' (by simp [hne, g5]) (by simp [gP]) hne).mono ?_
    rintro x e' h' ⟨r1, r2, es', r3, r4, r5, r6, r7⟩
    exact ⟨r1, r2, es', r3, r4, fun j hj => by rw [r5 j hj]; simp [hj], r6, fun B c1 c2 => r7 B (by simp; omega) c2⟩
/-- all places -/
structure Placed (c : Ce) (es : List (V × V)) : Prop where
  truth : mlook (spot (-1) 0) es = some (some (.int .i64 0))
  at_ : ∀ k h : Nat, k < 2 → h ≤ c.H → mlook (spot k h) es = some (some (.int .i64 ((1 + k * (c.H + 1) + h : Nat) : Int)))
  len : es.length = 2 * (c.H + 1) + 1
theorem bopened_run (c : Ce) (h : H) (hc : c.ok) : WC globs prog 77 [c.v, .int .i64 0] h fun v h' _ => ∃ P es, v = c.v6 P ∧ Eff h h' ∧ P < h'.next ∧ h.next ≤ P ∧ h'.get P = some (.map es) ∧ Placed c es := by
  obtain ⟨q1, q2, q3, q4, q5, q6, q7, q8⟩ := hc
  have w0 : IntKind.wrap .i64 ((c.H : Int) + 1) = ((c.H + 1 : Nat) : Int) := by rw [wrap64] <;> omega
  have w1 : IntKind.wrap .i64 1 = 1 := rfl
  have w2 : IntKind.wrap .i64 2 = 2 := rfl
  refine wc_eff (fn := c77) rfl rfl ?_
  refine wp_seq (wp_r (by simp [Ce.v, Ce.cs]; rfl) ?_)
  have hk : keyOk true [some .i64, some .i64] (.agg [.int .i64 (-1), .int .i64 0]) = true := rfl
  have hs : mset (.agg [.int .i64 (-1), .int .i64 0]) (.int .i64 0) [] = some [(spot (-1) 0, .int .i64 0)] := rfl
  refine wp_seq (wp_r (by simp [hk, hs, Ce.rates, Ce.pairs]; rfl) ?_)
  have rest : ∀ hA : H, hA.get h.next = some (.cells c.cs) → hA.get (h.next + 1) = some (.cells [.int .i64 0, .slice 0 [] .nil, .slice 0 [] .nil, .slice 0 [] .nil, .int .i64 0, .nilm]) → hA.get (h.next + 2) = some (.map [(spot (-1) 0, .int .i64 0)]) → hA.get (h.next + 3) = some (.cells (c.cs6 (h.next + 2))) → hA.next = h.next + 4 → h.next ≤ hA.low → (∀ j, j < h.next → hA.get j = h.get j) →
      WP globs prog none c77.body.r.r [(2, .ptr h.next 0), (4, .ptr (h.next + 1) 0), (5, .ptr (h.next + 3) 0)] hA fun x e1 h1 => (x = .normal ∨ x = .ret) ∧ ∃ us, ressOf e1 h1 c77.results = some us ∧ h.next ≤ h1.next ∧
      (h1.low < h.next ∨ ∀ i, i < h.next → h1.get i = h.get i) ∧
      ∀ h2 (p : Bool), h.next ≤ h2.next → (h2.low = h.low ∨ h2.low = min h.low h1.low) → (∀ i, i < h.next → h2.get i = h1.get i) → ((pack us).clasp.top ≤ h.next ∨ (h2.next = h1.next ∧ ∀ i, h2.get i = h1.get i)) →
        ∃ P es, (pack us).clasp = c.v6 P ∧ Eff h h2 ∧ P < h2.next ∧ h.next ≤ P ∧ h2.get P = some (.map es) ∧ Placed c es := by
    intro hA g0 g1 g2 g3 hn hl hj0
    have p0 : PRep c.H 0 0 [(spot (-1) 0, .int .i64 0)] := by
      refine ⟨fun x hx => by rw [List.mem_singleton.1 hx]; exact ⟨_, _, _, rfl⟩, rfl, fun k' h' _ h => by omega, fun k' h' _ _ => ?_, by simp⟩
      rw [slook_cons, if_neg (by omega)]; rfl
    refine wp_seq (wp_seq (wp_r (by simp [g0, Ce.cs, Ce.rates]; rfl) ?_))
    refine wp_block (wp_loop (wp_seq (wp_r (by simp; rfl) ?_)))
    refine wp_seq (wp_condT rfl (wp_skip ?_))
    refine wp_seq (wp_block (wp_seq (wp_r (by simp; rfl) ?_)))
    refine wp_seq (wp_r (by simp [g0, Ce.cs, w0, -Int.natCast_add]; rfl) ?_)
    refine wp_block ((places_inner c h.next (h.next + 1) (h.next + 3) (h.next + 2) 0 h.next q2 (by omega) (c.H + 1) 0 hA _ (by omega) p0 g3 g2 (by omega)).mono ?_)
    rintro x e1 hB ⟨rfl, j1, es1, p1, gB, kB, nB, lB⟩
    have a2 := j1 2 (by simp); have a4 := j1 4 (by simp); have a5 := j1 5 (by simp); have a16 := j1 16 (by simp); have a17 := j1 17 (by simp)
    simp only [pEnv] at a2 a4 a5 a16 a17
    refine wp_r (by simp [a2, a4, a5, a16, a17, w1]; rfl) ?_
    have g0B : hB.get h.next = some (.cells c.cs) := (kB _ (by omega)).trans g0
    have g3B := (kB (h.next + 3) (by omega)).trans g3
    refine wp_loop (wp_seq (wp_r (by simp; rfl) ?_))
    refine wp_seq (wp_condT rfl (wp_skip ?_))
    refine wp_seq (wp_block (wp_seq (wp_r (by simp; rfl) ?_)))
    refine wp_seq (wp_r (by simp [g0B, Ce.cs, w0, -Int.natCast_add]; rfl) ?_)
    refine wp_block ((places_inner c h.next (h.next + 1) (h.next + 3) (h.next + 2) 1 h.next q2 (by omega) (c.H + 1) 0 hB _ (by omega) p1.next g3B gB (by omega)).mono ?_)
    rintro x e2 hC ⟨rfl, j2, es2, p2, gC, kC, nC, lC⟩
    have b2 := j2 2 (by simp); have b4 := j2 4 (by simp); have b5 := j2 5 (by simp); have b16 := j2 16 (by simp); have b17 := j2 17 (by simp)
    simp only [pEnv] at b2 b4 b5 b16 b17
    refine wp_r (by simp [b2, b4, b5, b16, b17, w2]; rfl) ?_
    refine wp_loop (wp_seq (wp_r (by simp; rfl) ?_))
    refine wp_seq (wp_condF rfl (wp_exit ?_))
    have g3C := (kC (h.next + 3) (by omega)).trans g3B
    have g1C : hC.get (h.next + 1) = some (.cells [.int .i64 0, .slice 0 [] .nil, .slice 0 [] .nil, .slice 0 [] .nil, .int .i64 0, .nilm]) := by rw [kC _ (by omega), kB _ (by omega), g1]
    refine wp_seq (wp_r (by simp [g3C, g1C, Ce.cs6, Ce.rates, Ce.pairs]; rfl) ?_)
    refine wp_ret ?_
    refine ⟨.inr rfl, [c.v6 (h.next + 2)], by simp [c77, g1C, Ce.v6, Ce.cs6, Ce.rates, Ce.pairs], by simp; omega, .inr fun j hj => ?_, fun h2 p d1 d2 d3 d4 => ?_⟩
    · have : j ≠ h.next + 1 := by omega
      simp only [get_set, if_neg this]
      rw [kC _ (by omega), kB _ (by omega), hj0 j hj]
    · have hsl : (pack [c.v6 (h.next + 2)]).clasp = c.v6 (h.next + 2) := rfl
      rw [hsl] at d4 ⊢
      have htop : h.next + 3 ≤ (c.v6 (h.next + 2)).top := by
        show h.next + 2 + 1 ≤ Nat.max _ (Nat.max _ (Nat.max _ (Nat.max _ (Nat.max _ (Nat.max (h.next + 2 + 1) _)))))
        exact Nat.le_trans (Nat.le_max_left _ _) (Nat.le_trans (Nat.le_max_right _ _) (Nat.le_trans (Nat.le_max_right _ _) (Nat.le_trans (Nat.le_max_right _ _) (Nat.le_trans (Nat.le_max_right _ _) (Nat.le_max_right _ _)))))
      rcases d4 with d4 | ⟨d4, d5⟩
      · omega
      · have nn : h2.next = hC.next := d4
        refine ⟨h.next + 2, es2, rfl, ⟨d1, fun j hj => ?_, fun B c1 c2 => ?_⟩, by omega, by omega, by rw [d5, get_set, if_neg (by omega), gC], ⟨p2.truth, fun k h' e1 e2 => p2.old k h' e2 (by omega), by rw [p2.len]; omega⟩⟩
        · rw [d5, get_set, if_neg (by omega), kC _ (by omega), kB _ (by omega), hj0 j hj]
        · have c3 := lC B (lB B (by omega) (by omega)) (by omega)
          rcases d2 with d2 | d2
          · omega
          · rw [d2]
            show B ≤ min h.low (min (h.next + 1) hC.low)
            omega
  refine rest _ (by simp [Ce.cs, Ce.rates, Ce.pairs]) (by simp) (by simp) (by simp [Ce.cs6, Ce.rates, Ce.pairs]) (by simp) (by simp <;> omega) (fun j hj => ?_)
  have a0 : j ≠ h.next := by omega
  have a1 : j ≠ h.next + 1 := by omega
  have a2 : j ≠ h.next + 1 + 1 := by omega
  have a3 : j ≠ h.next + 1 + 1 + 1 := by omega
  simp [a0, a1, a2, a3]
end Go.Vi.Tryd
