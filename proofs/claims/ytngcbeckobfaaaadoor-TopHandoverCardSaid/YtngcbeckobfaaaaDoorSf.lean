/- Spare's opened: all sets of machines are known. No statement of a claim stands here. -/
import Derived.Test.YtngcbeckobfaaaaDoorSe
set_option linter.unusedSimpArgs false
set_option linter.unusedVariables false
namespace Go.Vi.Tryd
open Go Go.Vi
attribute [local simp] reg pre guarded isCall ev again Env.put alook bindArgs Opd.val ar_add ar_sub ar_mul ar_quo ar_rem ar_eql ar_neq ar_lss ar_leq ar_gtr ar_geq Env.mask List.filterMap ressOf resOf pack V.clasp sealL V.top topL get_new get_set next_new next_set low_new low_set low_mk next_mk get_mk vals sub V.isAgg V.cells V.cell1 setRange bnd ival bval fillIn minmax Nat.ne_of_lt ne2 ne3 ne4 ne5 ne6 V.same sameL

theorem opened_loop (s : St) (F L p1 p2 p3 n0 t2 N : Nat) (hs : s.ok) (hN : N ≤ 256) : ∀ (kk i : Nat) (f g : Nat → Option Int) (h : H), i + kk = N → Mem s F L p1 p2 p3 f g h → Good s f g → (∀ u, u < i → f u ≠ none) → n0 ≤ h.next →
    WP globs prog none c27_l0 [(2, .ptr t2 0), (3, .ptr p1 0), (4, .ptr p3 0), (21, .int .i64 N), (22, .int .i64 i)] h fun x e' h' => x = .exit 0 ∧ alook 2 e' = some (.ptr t2 0) ∧ alook 3 e' = some (.ptr p1 0) ∧
      ∃ f' g', Mem s F L p1 p2 p3 f' g' h' ∧ Good s f' g' ∧ (∀ u, u < N → f' u ≠ none) ∧ Fr h.next F L h h'
  | 0, i, f, g, h, hi, hm, hg, hf, hn => by
    have : i = N := by omega
    subst this
    refine wp_loop (wp_seq (wp_r (by simp; rfl) ?_))
    refine wp_seq (wp_condF rfl (wp_exit ?_))
    exact ⟨rfl, rfl, rfl, f, g, hm, hg, hf, Eff.refl.fr (Nat.le_refl _)⟩
  | kk + 1, i, f, g, h, hi, hm, hg, hf, hn => by
    have hlt : i < N := by omega
    have w1 : IntKind.wrap .i64 (i + 1 : Int) = ((i + 1 : Nat) : Int) := by rw [wrap64] <;> omega
    refine wp_loop (wp_seq (wp_r (by simp [hlt]; rfl) ?_))
    refine wp_seq (wp_condT rfl (wp_skip ?_))
    refine wp_seq (wp_block (wp_seq (wp_r (by simp; rfl) ?_)))
    have g3 := hm.g3
    refine wp_rc ?_
    refine wo_p (by simp [g3]; rfl) ?_
    refine wo_call (k := 66) (first := []) (args := [.int .i64 i]) (caps := [.ptr p1 0, .ptr p2 0, .ptr p3 0]) (by simp) (by simp) (by simp) ((reach_run s F L p1 p2 p3 hs i (by omega) f g h hm hg).mono ?_)
    rintro v h2 p ⟨n, f2, g2, rfl, hf2, hg2, hx2, m2, fr2⟩
    refine ⟨fun h => (by cases h), by simp, ?_⟩
    refine wo_p (by simp; rfl) ?_
    refine wo_m (by simp; rfl) ?_
    refine wp_r (by simp [w1, -Int.natCast_add]; rfl) ?_
    refine (opened_loop s F L p1 p2 p3 n0 t2 N hs hN kk (i + 1) f2 g2 h2 (by omega) m2 hg2 (fun u hu => ?_) (by have := fr2.next; omega)).mono ?_
    · by_cases hui : u = i
      · rw [hui, hf2]; simp
      · have := hf u (by omega)
        rw [((hx2 u).1 this).1]; exact this
    · rintro x e' h' ⟨r1, r2, r3, f', g', r4, r5, r6, r7⟩
      exact ⟨r1, r2, r3, f', g', r4, r5, r6, fr2.trans (r7.of fr2.next)⟩

/-- what is known of all sets -/
structure Opened (s : St) (F L : Nat) (f g : Nat → Option Int) (h : H) : Prop where
  good : Good s f g
  all : ∀ u, u < 2 ^ s.ms.length → f u ≠ none
  lF : F < h.next
  lL : L < h.next
  mF : ∃ es, h.get F = some (.map es) ∧ MapRep es f
  mL : ∃ es, h.get L = some (.map es) ∧ MapRep es g
theorem Opened.eff {s : St} {F L : Nat} {f g : Nat → Option Int} {h h' : H} (o : Opened s F L f g h) (e : Eff h h') : Opened s F L f g h' := by
  obtain ⟨o1, o2, o3, o4, ⟨es, gF, rF⟩, ⟨es', gL, rL⟩⟩ := o
  exact ⟨o1, o2, Nat.lt_of_lt_of_le o3 e.next, Nat.lt_of_lt_of_le o4 e.next, ⟨es, (e.get _ o3).trans gF, rF⟩, ⟨es', (e.get _ o4).trans gL, rL⟩⟩

theorem stV_seal {s : St} (ht : ∀ id, s.t ≠ .own id) (F L : Nat) : (stV s F L).clasp = stV s F L := by
  obtain ⟨hours, gap, ms, t⟩ := s
  cases t with
  | own id => exact absurd rfl (ht id)
  | _ => rfl
theorem stV_top (s : St) (F L : Nat) : F + 1 ≤ (stV s F L).top := by
  show F + 1 ≤ Nat.max 0 (Nat.max 0 (Nat.max _ (Nat.max (F + 1) _)))
  exact Nat.le_trans (Nat.le_max_left _ _) (Nat.le_trans (Nat.le_max_right _ _) (Nat.le_trans (Nat.le_max_right _ _) (Nat.le_max_right _ _)))
theorem opened_run (s : St) (h : H) (hs : s.ok) (ht : ∀ id, s.t ≠ .own id) : WC globs prog 27 [s.v] h fun v h' _ => ∃ F L f g, v = stV s F L ∧ Opened s F L f g h' ∧ Eff h h' := by
  have hs' := hs
  obtain ⟨s1, s2, s3, s4, s5, s6, s7⟩ := hs'
  refine wc_eff (fn := c27) rfl rfl ?_
  refine wp_seq (wp_r (by simp [St.v]; rfl) ?_)
  refine wp_seq (wp_r (by simp; rfl) ?_)
  refine wp_seq (wp_r (by simp; rfl) ?_)
  refine wp_seq (wp_r (by simp; rfl) ?_)
  have hshl := ar_shl (b := s.ms.length) (by omega)
  have hp : 2 ^ s.ms.length ≤ 2 ^ 8 := Nat.pow_le_pow_right (by omega) s6
  have hp0 : 0 < 2 ^ s.ms.length := Nat.two_pow_pos _
  have w : IntKind.wrap .i64 (((2 ^ s.ms.length : Nat) : Int) - 1) = ((2 ^ s.ms.length - 1 : Nat) : Int) := by
    generalize (2 ^ s.ms.length : Nat) = x at *
    rw [wrap64] <;> omega
  have rest : ∀ hA : H, Mem s (h.next + 2) (h.next + 3) (h.next + 4) h.next (h.next + 5) (fun _ => none) (fun _ => none) hA → Eff h hA → hA.get (h.next + 1) = some (.cells [.int .i64 0, .int .i64 0, .slice 0 [] .nil, .nilm, .nilm]) → h.next ≤ hA.low →
      WP globs prog none c27.body.r.r.r.r [(1, .ptr h.next 0), (2, .ptr (h.next + 1) 0), (3, .ptr (h.next + 4) 0), (4, .ptr (h.next + 5) 0)] hA fun x e1 h1 => (x = .normal ∨ x = .ret) ∧ ∃ us, ressOf e1 h1 c27.results = some us ∧ h.next ≤ h1.next ∧
      (h1.low < h.next ∨ ∀ i, i < h.next → h1.get i = h.get i) ∧
      ∀ h2 (p : Bool), h.next ≤ h2.next → (h2.low = h.low ∨ h2.low = min h.low h1.low) → (∀ i, i < h.next → h2.get i = h1.get i) → ((pack us).clasp.top ≤ h.next ∨ (h2.next = h1.next ∧ ∀ i, h2.get i = h1.get i)) →
        ∃ F L f g, (pack us).clasp = stV s F L ∧ Opened s F L f g h2 ∧ Eff h h2 := by
    intro hA mA eA gA2 lA
    have z2 := mA.g2
    have z3 := mA.g3
    have hw := w
    generalize hpe : (2 ^ s.ms.length : Nat) = N at *
    refine wp_seq (wp_rc ?_)
    refine wo_p (by simp [z2, z3, hshl, hw]; rfl) ?_
    refine wo_call (k := 66) (first := []) (args := [.int .i64 ((N - 1 : Nat) : Int)]) (caps := [.ptr (h.next + 4) 0, .ptr h.next 0, .ptr (h.next + 5) 0]) (by simp) (by simp) (by simp) ((reach_run s _ _ _ _ _ hs (N - 1) (by omega) _ _ hA mA (fun _ _ h => by cases h)).mono ?_)
    rintro v hB p ⟨n, f1, g1, rfl, -, hg1, -, mB, frB⟩
    refine ⟨fun h => (by cases h), by simp, ?_⟩
    refine wo_p (by simp; rfl) ?_
    refine wo_m (by simp; rfl) ?_
    have y2 := mB.g2
    refine wp_seq (wp_seq (wp_r (by simp [y2, hshl]; rfl) ?_))
    refine wp_block ((opened_loop s (h.next + 2) (h.next + 3) (h.next + 4) h.next (h.next + 5) 0 (h.next + 1) N hs hp N 0 f1 g1 hB (by omega) mB hg1 (fun u hu => by omega) (by omega)).mono ?_)
    rintro x e' hC ⟨rfl, j2, j3, f, g, mC, hgC, hall, frC⟩
    have x1 := mC.g1
    have hl2 := mA.lL
    have hl1 := mA.l1
    have nB := frB.next
    have nC := frC.next
    have gB2 : hC.get (h.next + 1) = some (.cells [.int .i64 0, .int .i64 0, .slice 0 [] .nil, .nilm, .nilm]) := by rw [frC.get _ (by omega) (by omega) (by omega), frB.get _ (by omega) (by omega) (by omega), gA2]
    refine wp_seq (wp_r (by simp [j2, j3, x1, stC, gB2]; rfl) ?_)
    refine wp_ret ?_
    refine ⟨.inr rfl, [stV s (h.next + 2) (h.next + 3)], by simp [c27, gB2, stV], by simp; omega, .inr fun j hj => ?_, fun h2 p q1 q2 q3 q4 => ?_⟩
    · have : j ≠ h.next + 1 := by omega
      simp only [get_set, if_neg this]
      rw [frC.get _ (by omega) (by omega) (by omega), frB.get _ (by omega) (by omega) (by omega), eA.get j hj]
    · have hsl : (pack [stV s (h.next + 2) (h.next + 3)]).clasp = stV s (h.next + 2) (h.next + 3) := stV_seal ht _ _
      rw [hsl] at q4 ⊢
      have htop := stV_top s (h.next + 2) (h.next + 3)
      rcases q4 with q4 | ⟨q4, q5⟩
      · omega
      · obtain ⟨es, gF, rF⟩ := mC.mF
        obtain ⟨es', gL, rL⟩ := mC.mL
        have lF := mC.lF
        have lL := mC.lL
        have nn : h2.next = hC.next := q4
        refine ⟨_, _, f, g, rfl, ⟨hgC, by rw [hpe]; exact hall, by omega, by omega, ⟨es, by rw [q5, get_set, if_neg (by omega), gF], rF⟩, ⟨es', by rw [q5, get_set, if_neg (by omega), gL], rL⟩⟩, ⟨q1, fun j hj => ?_, fun B c1 c2 => ?_⟩⟩
        · rw [q5, get_set, if_neg (by omega), frC.get _ (by omega) (by omega) (by omega), frB.get _ (by omega) (by omega) (by omega), eA.get j hj]
        · have hlow : (hC.set (h.next + 1) (.cells [.int .i64 s.hours, .int .i64 s.gap, .slice 5 (s.ms.map M.v) s.t, .map (h.next + 2), .map (h.next + 3)])).low = min (h.next + 1) hC.low := rfl
          have c3 := frC.low B (frB.low B (by omega) (by omega) (by omega) (by omega)) (by omega) (by omega) (by omega)
          rcases q2 with q2 | q2
          · omega
          · rw [q2]
            show B ≤ min h.low (min (h.next + 1) hC.low)
            omega
  refine rest _ ?_ ?_ (by simp) (by simp; omega)
  · refine ⟨by simp <;> omega, by simp <;> omega, by simp <;> omega, by simp <;> omega, by simp <;> omega, by simp [stC], by simp, by simp, ⟨[], by simp, MapRep.empty⟩, ⟨[], by simp, MapRep.empty⟩, by omega⟩
  · refine ⟨by simp; omega, fun j hj => ?_, fun B c1 c2 => by simp; omega⟩
    have a0 : j ≠ h.next := by omega
    have a1 : j ≠ h.next + 1 := by omega
    have a2 : j ≠ h.next + 1 + 1 := by omega
    have a3 : j ≠ h.next + 1 + 1 + 1 := by omega
    have a4 : j ≠ h.next + 1 + 1 + 1 + 1 := by omega
    have a5 : j ≠ h.next + 1 + 1 + 1 + 1 + 1 := by omega
    simp [a0, a1, a2, a3, a4, a5]
end Go.Vi.Tryd
