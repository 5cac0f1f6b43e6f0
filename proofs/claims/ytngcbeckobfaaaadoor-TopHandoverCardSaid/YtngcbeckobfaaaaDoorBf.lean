/- Beat's bounds: what comparisons let be, all of them. No statement of a claim stands here. -/
import Derived.Test.YtngcbeckobfaaaaDoorBe
set_option linter.unusedSimpArgs false
set_option linter.unusedVariables false
namespace Go.Vi.Tryd
open Go Go.Vi
attribute [local simp] reg pre guarded isCall ev again Env.put alook bindArgs Opd.val ar_add ar_sub ar_mul ar_quo ar_rem ar_eql ar_neq ar_lss ar_leq ar_gtr ar_geq Env.mask List.filterMap ressOf resOf pack V.clasp sealL V.top topL get_new get_set next_new next_set low_new low_set low_mk next_mk get_mk vals sub V.isAgg V.cells V.cell1 setRange bnd ival bval fillIn minmax Nat.ne_of_lt ne2 ne3 ne4 ne5 ne6 V.same sameL Nat.beq_refl

def readsUp (c : Ce) : Nat → List Bd
  | 0 => []
  | n + 1 => readsUp c n ++ (newAt c 0 n ++ newAt c 1 n)
theorem readsUp_len (c : Ce) : ∀ n, (readsUp c n).length ≤ 4 * n
  | 0 => by simp [readsUp]
  | n + 1 => by
    have := readsUp_len c n
    have hnl : ∀ i, (newAt c i n).length ≤ 2 := fun i => by unfold newAt; split <;> simp [said]
    have h0 := hnl 0
    have h1 := hnl 1
    simp [readsUp]; omega
def sEnv (c : Ce) (p1 t3 hh : Nat) : Env := [(1, .ptr p1 0), (2, .slice 0 [] .nil), (3, .ptr t3 0), (10, .int .i64 ((c.H : Int) + 1)), (11, .int .i64 hh)]
theorem reads_loop (c : Ce) (P n0 p1 t3 : Nat) (hH : c.H ≤ 12) (h3 : n0 ≤ t3) (h13 : p1 ≠ t3) : ∀ (kk hh : Nat) (h : H), hh + kk = c.H + 1 → n0 ≤ h.next → p1 < h.next → t3 < h.next → h.get p1 = some (.cells (c.cs6 P)) → (∃ o, h.get t3 = some (.cells [o]) ∧ OutB n0 (readsUp c hh) o h) → n0 ≤ h.low →
    WP globs prog none c172_l0 (sEnv c p1 t3 hh) h fun x e' h' => x = .exit 0 ∧ alook 3 e' = some (.ptr t3 0) ∧ (∃ o, h'.get t3 = some (.cells [o]) ∧ OutB n0 (readsUp c (c.H + 1)) o h') ∧ n0 ≤ h'.low
  | 0, hh, h, hi, hn, l1, l3, g1, ho, hl => by
    have : hh = c.H + 1 := by omega
    subst this
    refine wp_loop (wp_seq (wp_r (by simp [sEnv]; rfl) ?_))
    refine wp_seq (wp_condF rfl (wp_exit ?_))
    exact ⟨rfl, rfl, ho, hl⟩
  | kk + 1, hh, h, hi, hn, l1, l3, g1, ⟨o, g3, ho⟩, hl => by
    have hlt : (hh : Int) < (c.H : Int) + 1 := by omega
    have w1 : IntKind.wrap .i64 (hh + 1 : Int) = ((hh + 1 : Nat) : Int) := by rw [wrap64] <;> omega
    refine wp_loop (wp_seq (wp_r (by simp [sEnv, hlt]; rfl) ?_))
    refine wp_seq (wp_condT rfl (wp_skip ?_))
    refine wp_seq (wp_block (wp_seq (wp_r (by simp; rfl) ?_)))
    have eA : Eff h ((h.new (.cells [.int .i64 0])).set h.next (.cells [.int .i64 hh])) := Eff.set Eff.new (Nat.le_refl _)
    have x4 : ((h.new (.cells [.int .i64 0])).set h.next (.cells [.int .i64 hh])).get h.next = some (.cells [.int .i64 hh]) := by simp
    have nA : ((h.new (.cells [.int .i64 0])).set h.next (.cells [.int .i64 hh])).next = h.next + 1 := rfl
    generalize (h.new (.cells [.int .i64 0])).set h.next (.cells [.int .i64 hh]) = hA at *
    have g1A := (eA.get _ l1).trans g1
    refine wp_seq (wp_rc ?_)
    refine wo_p (by simp [g1A, x4, Ce.cs6]; rfl) ?_
    refine wo_call (k := 176) (first := []) (args := [c.v6 P, .int .i64 hh]) (caps := []) (by simp) (by simp) (by simp [Ce.v6, Ce.cs6]) ((pairs_run c P hh hA).mono ?_)
    rintro v hB p ⟨rfl, nB, eB, b1, b2⟩
    refine ⟨fun h => (by cases h), by simp, ?_⟩
    refine wo_p (by simp; rfl) ?_
    refine wo_m (by simp; rfl) ?_
    refine wp_block (wp_range (g := 177) (first := []) (caps := [.ptr hA.next 0, .ptr (hA.next + 1) 0]) (by simp) rfl ?_)
    show WC globs prog 177 [.yield hB.next, .ptr hA.next 0, .ptr (hA.next + 1) 0] (hB.new (.loop (rdRec t3 h.next))) _
    have eC : Eff hB (hB.new (.loop (rdRec t3 h.next))) := Eff.new
    have gl : (hB.new (.loop (rdRec t3 h.next))).get hB.next = some (.loop (rdRec t3 h.next)) := by simp
    have nC : (hB.new (.loop (rdRec t3 h.next))).next = hB.next + 1 := rfl
    generalize hB.new (.loop (rdRec t3 h.next)) = hC at *
    have eAC : Eff h hC := (eA.trans eB).trans eC
    have st : RSt n0 hB.next t3 h.next hh (readsUp c hh) hC := ⟨by omega, by omega, by omega, by omega, h3, by omega, by omega, gl, (eC.get _ (by omega)).trans ((eB.get _ (by omega)).trans x4), ⟨o, (eAC.get _ l3).trans g3, ho.eff eAC⟩, by omega⟩
    have q : QH c P hB.next t3 hA.next (hA.next + 1) hh hC := ⟨by omega, by omega, (eC.get _ (by omega)).trans b1, (eC.get _ (by omega)).trans b2, by omega, by omega⟩
    have rl := readsUp_len c hh
    refine (pairs_call c P n0 hB.next t3 h.next hA.next (hA.next + 1) hh (readsUp c hh) hC (by omega) (by omega) st q).mono ?_
    rintro v hD p ⟨st2, k2⟩
    refine ⟨rdRec t3 h.next, st2.gl, by simp [rdRec], ?_⟩
    obtain ⟨o2, g3D, ho2⟩ := st2.out
    have n2 := k2.next
    have g1D : hD.get p1 = some (.cells (c.cs6 P)) := by
      have := (eAC.get _ l1).trans g1
      exact (k2.get _ (by omega) (by omega) h13 (fun _ _ e => by rw [this] at e; cases e)).trans this
    show (thenQ globs prog none c172_l0.l.r.r.r (thenQ globs prog none c172_l0 _)) .normal _ (hD.set hB.next .dead)
    refine wp_r (by simp [w1, -Int.natCast_add]; rfl) ?_
    have lowC := eAC.low n0 hl hn
    have lowD := k2.low n0 lowC (Nat.le_refl _)
    refine (reads_loop c P n0 p1 t3 hH h3 h13 kk (hh + 1) (hD.set hB.next .dead) (by omega) (by show n0 ≤ hD.next; omega) (by show p1 < hD.next; omega) (by show t3 < hD.next; omega) (by rw [get_set, if_neg (by omega)]; exact g1D) ⟨o2, by rw [get_set, if_neg (by omega)]; exact g3D, ?_⟩ (by show n0 ≤ min hB.next hD.low; omega))
    rcases ho2 with hx | ⟨id, d1, d2, d3, d4⟩
    · exact .inl hx
    · refine .inr ⟨id, d1, ?_, d3, d4⟩
      rw [get_set, if_neg (fun e => by rw [e, st2.gl] at d2; cases d2)]
      exact d2
def readsF (c : Ce) : List Bd := readsUp c (c.H + 1)
theorem readsUp_mem (c : Ce) (i : Nat) : ∀ n, c.hr i < n → i < 2 → ∀ b ∈ said i (c.hr i), b ∈ readsUp c n
  | 0, h, _, _, _ => by omega
  | n + 1, h, hi, b, hb => by
    simp only [readsUp, List.mem_append]
    by_cases he : c.hr i = n
    · right
      have : i = 0 ∨ i = 1 := by omega
      rcases this with rfl | rfl
      · left; simp [newAt, he]; rw [he] at hb; exact hb
      · right; simp [newAt, he]; rw [he] at hb; exact hb
    · left; exact readsUp_mem c i n (by omega) hi b hb
theorem reads_run (c : Ce) (P : Nat) (h : H) (hc : c.ok) : WC globs prog 172 [c.v6 P] h fun v h' p => v = .slice 5 ((readsF c).map Bd.v) .any ∧ h' = h ∧ p = true := by
  have hc' := hc
  obtain ⟨q1, q2, q3, q4, q5, q6, q7, q8⟩ := hc
  have w0 : IntKind.wrap .i64 ((c.H : Int) + 1) = (c.H : Int) + 1 := by rw [wrap64] <;> omega
  refine wc_pure (fn := c172) rfl rfl ?_
  refine wp_seq (wp_r (by simp [Ce.v6, Ce.cs6]; rfl) ?_)
  refine wp_seq (wp_r (by simp; rfl) ?_)
  refine wp_seq (wp_seq (wp_r (by simp [w0]; rfl) ?_))
  refine wp_block ((reads_loop c P h.next h.next (h.next + 1) q2 (by omega) (by omega) (c.H + 1) 0 _ (by omega) (by simp; omega) (by simp; omega) (by simp) (by simp [Ce.cs6]) ⟨.slice 0 [] .nil, by simp, .inl ⟨rfl, rfl⟩⟩ (by simp)).mono ?_)
  rintro x e' h' ⟨rfl, j3, ⟨o, g3, ho⟩, hl⟩
  have hne : readsUp c (c.H + 1) ≠ [] := by
    have := readsUp_mem c 0 (c.H + 1) (by show c.h0 < c.H + 1; omega) (by omega) ⟨0, c.h0, -1, 0, 0⟩ (by simp [said, Ce.hr])
    intro e; rw [e] at this; cases this
  obtain ⟨f1, f2⟩ := ho.out hne
  obtain ⟨ok, oes, ot, rfl⟩ := ho.slice
  refine wp_seq (wp_r (by simp [j3, g3]; rfl) ?_)
  refine wp_ret ?_
  refine ⟨.inr rfl, [.slice ok oes ot], rfl, ?_, hl, f1, rfl, rfl⟩
  show (V.slice ok oes ot).clasp.top ≤ h.next
  rw [f2]; omega
end Go.Vi.Tryd
