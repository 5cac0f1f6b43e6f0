/- Beat's above, as a whole. No statement of a claim stands here. -/
import Derived.Test.YtngcbeckobfaaaaDoorBg
set_option linter.unusedSimpArgs false
set_option linter.unusedVariables false
namespace Go.Vi.Tryd
open Go Go.Vi
attribute [local simp] reg pre guarded isCall ev again Env.put alook bindArgs Opd.val ar_add ar_sub ar_mul ar_quo ar_rem ar_eql ar_neq ar_lss ar_leq ar_gtr ar_geq Env.mask List.filterMap ressOf resOf pack V.clasp sealL V.top topL get_new get_set next_new next_set low_new low_set low_mk next_mk get_mk vals sub V.isAgg V.cells V.cell1 setRange bnd ival bval fillIn minmax Nat.ne_of_lt ne2 ne3 ne4 ne5 ne6 V.same sameL Nat.beq_refl

theorem gk_ok {c : Ce} {k : Nat} {r : Int} (hk : k < 2) (hr : 0 ≤ r ∧ r ≤ 100) : ∀ n, n ≤ c.H → ∀ b ∈ gk k r n, BdOk c b
  | 0, _, b, hb => by cases hb
  | n + 1, hn, b, hb => by
    simp only [gk, List.mem_append, List.mem_cons, List.not_mem_nil, or_false] at hb
    rcases hb with hb | rfl | rfl
    · exact gk_ok hk hr n (by omega) b hb
    · exact ⟨.inr (by dsimp only; omega), .inr (by dsimp only; omega), hr.1, by dsimp only; omega⟩
    · exact ⟨.inr (by dsimp only; omega), .inr (by dsimp only; omega), hr.1, by dsimp only; omega⟩
theorem hk_ok {c : Ce} {k : Nat} (hk' : k < 2) : ∀ n, n ≤ c.H + 1 → ∀ b ∈ hk k n, BdOk c b
  | 0, _, b, hb => by cases hb
  | n + 1, hn, b, hb => by
    simp only [hk, List.mem_append, List.mem_cons, List.not_mem_nil, or_false] at hb
    rcases hb with hb | rfl | rfl
    · exact hk_ok hk' n (by omega) b hb
    · exact ⟨.inr (by dsimp only; omega), .inl ⟨rfl, rfl⟩, by dsimp only; omega, by dsimp only; omega⟩
    · exact ⟨.inl ⟨rfl, rfl⟩, .inr (by dsimp only; omega), by dsimp only; omega, by dsimp only; omega⟩
theorem said_ok {c : Ce} {i n : Nat} (hi : i < 2) (hn : n ≤ c.H) : ∀ b ∈ said i n, BdOk c b := by
  intro b hb
  simp only [said, List.mem_cons, List.not_mem_nil, or_false] at hb
  rcases hb with rfl | rfl
  · exact ⟨.inr (by dsimp only; omega), .inl ⟨rfl, rfl⟩, by dsimp only; omega, by dsimp only; omega⟩
  · exact ⟨.inl ⟨rfl, rfl⟩, .inr (by dsimp only; omega), by dsimp only; omega, by dsimp only; omega⟩
theorem readsUp_ok {c : Ce} : ∀ n, n ≤ c.H + 1 → ∀ b ∈ readsUp c n, BdOk c b
  | 0, _, b, hb => by cases hb
  | n + 1, hn, b, hb => by
    simp only [readsUp, List.mem_append] at hb
    rcases hb with hb | hb | hb
    · exact readsUp_ok n (by omega) b hb
    · unfold newAt at hb
      split at hb
      · exact said_ok (by omega) (by omega) b hb
      · cases hb
    · unfold newAt at hb
      split at hb
      · exact said_ok (by omega) (by omega) b hb
      · cases hb
theorem allB_ok {c : Ce} (hc : c.ok) : ∀ b ∈ allB c, BdOk c b := by
  intro b hb
  simp only [allB, growsF, readsF, holdsF, List.mem_append] at hb
  rcases hb with ((hb | hb) | hb) | hb | hb
  · exact gk_ok (by omega) ⟨hc.a0, hc.a1⟩ _ (Nat.le_refl _) b hb
  · exact gk_ok (by omega) ⟨hc.b0, hc.b1⟩ _ (Nat.le_refl _) b hb
  · exact readsUp_ok _ (Nat.le_refl _) b hb
  · exact hk_ok (by omega) _ (Nat.le_refl _) b hb
  · exact hk_ok (by omega) _ (Nat.le_refl _) b hb
theorem arr_congr {a b : Nat → Int} (h : ∀ j, j < 66 → a j = b j) : arr a = arr b := by
  unfold arr
  apply List.map_congr_left
  intro j hj
  rw [h j (by simpa using hj)]
theorem sealL_arr (a : Nat → Int) : sealL (arr a) = arr a := by
  unfold arr
  induction List.range 66 with
  | nil => rfl
  | cons x l ih => simp only [List.map_cons, sealL, V.clasp, ih]
theorem topL_arr (a : Nat → Int) : topL (arr a) = 0 := by
  unfold arr
  induction List.range 66 with
  | nil => rfl
  | cons x l ih =>
    show Nat.max 0 (topL _) = 0
    rw [ih]; rfl
theorem glob3 : alook 3 globs = some (V.agg [.func 171 [] [], .func 172 [] [], .func 173 [] []]) := rfl

theorem above_run (c : Ce) (P : Nat) (a b : Int) (h : H) (es : List (V × V)) (hc : c.ok) (hgP : h.get P = some (.map es)) (hP : P < h.next) (hp : Placed c es) (hv : valid c a b) (hit : (iter c (allB c) (2 * (c.H + 1) + 2) (init (ix c a b))).2 = true) :
    WC globs prog 80 [c.v6 P, spot a b] h fun v h' p => v = .tuple [.agg (arr (iter c (allB c) (2 * (c.H + 1) + 2) (init (ix c a b))).1), .bool true] ∧ h' = h ∧ p = true := by
  have hH2 := hc.H2; have hH1 := hc.H1
  have hix := ix_lt hv
  refine wc_pure (fn := c80) rfl rfl ?_
  refine wp_seq (wp_r (by simp [Ce.v6, Ce.cs6, spot, arr_const, -List.reduceReplicate]; rfl) ?_)
  refine wp_seq (wp_r (by simp [arr_const, -List.reduceReplicate]; rfl) ?_)
  refine wp_seq (wp_seq (wp_r (by simp; rfl) ?_))
  have hPn : P ≠ h.next ∧ P ≠ h.next + 1 ∧ P ≠ h.next + 1 + 1 ∧ P ≠ h.next + 1 + 1 + 1 := by omega
  refine wp_block ((far_loop h.next (h.next + 1) (h.next + 2) (h.next + 3) h.next 66 0 (fun _ => 0) _ (by omega) (by simp) (by omega) (by simp)).mono ?_)
  rintro x e1 hA ⟨rfl, ⟨j2, j3, j4, j6⟩, ⟨a', -, fa, g6⟩, nA, kA, lA⟩
  rw [arr_congr (b := fun _ => far) (fun j hj => fa j (Nat.zero_le _) hj)] at g6
  have g2 : hA.get h.next = some (.cells (c.cs6 P)) := by rw [kA _ (by omega)]; simp [Ce.cs6]
  have g3 : hA.get (h.next + 1) = some (.cells [.int .i64 a, .int .i64 b]) := by rw [kA _ (by omega)]; simp
  have g4 : hA.get (h.next + 2) = some (.cells (arr fun _ => 0)) := by rw [kA _ (by omega)]; simp
  have gP : hA.get P = some (.map es) := by rw [kA _ (by omega)]; simp [hPn, hgP]
  have nA' : hA.next = h.next + 4 := by rw [nA]; simp
  have ko : keyOk true [some .i64, some .i64] (.agg [.int .i64 a, .int .i64 b]) = true := rfl
  have mo : mlook (.agg [.int .i64 a, .int .i64 b]) es = some (some (.int .i64 (ix c a b))) := hp.ix hv
  generalize hd : ix c a b = d at *
  have d66 : d < 66 := by omega
  have d65 : d ≤ 65 := by omega
  have di : (d : Int) < 66 := by omega
  have hup : upd (fun _ => far) d 0 = init d := rfl
  have hset := arr_set (fun _ => far) d66 0
  rw [hup] at hset
  refine wp_seq (wp_r (by simp [j2, j3, j4, j6, g2, g3, g6, gP, Ce.cs6, mapOf, ko, mo, lookRes, di, d65, arr_len, hset]; rfl) ?_)
  have kB : ∀ k, k ≠ h.next + 3 → (hA.set (h.next + 3) (.cells (arr (init d)))).get k = hA.get k := fun k hk => by rw [get_set, if_neg hk]
  have g6B : (hA.set (h.next + 3) (.cells (arr (init d)))).get (h.next + 3) = some (.cells (arr (init d))) := by rw [get_set, if_pos rfl, g6]; rfl
  have nB : (hA.set (h.next + 3) (.cells (arr (init d)))).next = h.next + 4 := nA'
  have lB : h.next ≤ (hA.set (h.next + 3) (.cells (arr (init d)))).low := by simp; omega
  have g2B := (kB h.next (by omega)).trans g2
  have g4B := (kB (h.next + 2) (by omega)).trans g4
  have gPB := (kB P (by omega)).trans gP
  generalize hA.set (h.next + 3) (.cells (arr (init d))) = hB at *
  refine wp_seq (wp_r (by simp; rfl) ?_)
  have w1 : IntKind.wrap .i64 1 = 1 := rfl
  have w2 : IntKind.wrap .i64 2 = 2 := rfl
  have w3 : IntKind.wrap .i64 3 = 3 := rfl
  have lg : (growsF c).length ≤ 48 := by simp [growsF, gk_len]; omega
  have lr : (readsF c).length ≤ 52 := by have := readsUp_len c (c.H + 1); unfold readsF; omega
  have lh : (holdsF c).length ≤ 52 := by simp [holdsF, hk_len]; omega
  have ng : growsF c ≠ [] := by intro e; have := congrArg List.length e; simp [growsF, gk_len] at this; omega
  have nr : readsF c ≠ [] := by
    have := readsUp_mem c 0 (c.H + 1) (by show c.h0 < c.H + 1; have := hc.h0; omega) (by omega) ⟨0, c.h0, -1, 0, 0⟩ (by simp [said, Ce.hr])
    intro e; rw [readsF] at e; rw [e] at this; cases this
  have nh : holdsF c ≠ [] := by intro e; have := congrArg List.length e; simp [holdsF, hk_len] at this
  refine wp_seq (wp_seq (wp_r (by simp [glob3]; rfl) ?_))
  refine wp_block (wp_loop (wp_seq (wp_r (by simp; rfl) ?_)))
  -- grows
  refine wp_seq (wp_condT rfl (wp_skip ?_))
  refine wp_seq (wp_block (wp_seq (wp_r (by simp; rfl) ?_)))
  refine wp_rc ?_
  refine wo_p (by simp [g2B, Ce.cs6]; rfl) ?_
  refine wo_fv (grows_run c P _ hc) (by simp) (by simp) (by simp [Ce.v6, Ce.cs6]) (by simp) ?_
  refine wo_appB (n0 := h.next) (bs := []) (tt := .any) (ys := growsF c) (.inl ⟨rfl, rfl⟩) (by simp) (by simp) ng (by simp; omega) (by omega) ?_
  intro o1 hC oC kC
  refine wo_p (by simp; rfl) ?_
  refine wo_m (by simp; rfl) ?_
  refine wp_r (by simp [w1]; rfl) ?_
  have nC := kC.next
  have g2C := kC.cells (by omega) g2B
  -- reads
  refine wp_loop (wp_seq (wp_r (by simp; rfl) ?_))
  refine wp_seq (wp_condT rfl (wp_skip ?_))
  refine wp_seq (wp_block (wp_seq (wp_r (by simp; rfl) ?_)))
  refine wp_rc ?_
  refine wo_p (by simp [g2C, Ce.cs6]; rfl) ?_
  refine wo_fv (reads_run c P _ hc) (by simp) (by simp) (by simp [Ce.v6, Ce.cs6]) (by simp) ?_
  refine wo_appB (n0 := h.next) (tt := .any) (ys := readsF c) oC (by simp) (by simp) nr (by simp; omega) (by omega) ?_
  intro o2 hD oD kD
  refine wo_p (by simp; rfl) ?_
  refine wo_m (by simp; rfl) ?_
  refine wp_r (by simp [w2]; rfl) ?_
  have nD := kD.next
  have g2D := kD.cells (by omega) g2C
  -- holds
  refine wp_loop (wp_seq (wp_r (by simp; rfl) ?_))
  refine wp_seq (wp_condT rfl (wp_skip ?_))
  refine wp_seq (wp_block (wp_seq (wp_r (by simp; rfl) ?_)))
  refine wp_rc ?_
  refine wo_p (by simp [g2D, Ce.cs6]; rfl) ?_
  refine wo_fv (holds_run c P _ hc) (by simp) (by simp) (by simp [Ce.v6, Ce.cs6]) (by simp) ?_
  refine wo_appB (n0 := h.next) (tt := .any) (ys := holdsF c) oD (by simp) (by simp) nh (by simp; omega) (by omega) ?_
  intro o3 hE oE kE
  refine wo_p (by simp; rfl) ?_
  refine wo_m (by simp; rfl) ?_
  refine wp_r (by simp [w3]; rfl) ?_
  have nE := kE.next
  have g2E := kE.cells (by omega) g2D
  refine wp_loop (wp_seq (wp_r (by simp; rfl) ?_))
  refine wp_seq (wp_condF rfl (wp_exit ?_))
  have kBE := (kC.trans kD).trans kE
  have gPE : hE.get P = some (.map es) := (kBE.get _ (by omega) (fun k u e => by rw [gPB] at e; cases e)).trans gPB
  have g4E := kBE.cells (by omega) g4B
  have g6E := kBE.cells (by omega) g6B
  have lE := kBE.low h.next lB (Nat.le_refl _)
  have oE' : OutB h.next (allB c) o3 hE := oE
  rcases oE' with ⟨hx, -⟩ | ⟨id, rfl, -⟩
  · exfalso; apply ng; have := congrArg List.length hx; simp [allB] at this; exact List.eq_nil_of_length_eq_zero (by simp [this])
  have hN : es.length = 2 * (c.H + 1) + 1 := hp.len
  have wN : IntKind.wrap .i64 ((es.length : Int) + 1) = ((2 * (c.H + 1) + 2 : Nat) : Int) := by rw [wrap64] <;> omega
  refine wp_seq (wp_seq (wp_r (by simp [g2E, Ce.cs6, gPE, wN, -Int.natCast_add]; rfl) ?_))
  have hall := allB_ok hc
  have hinit : InR (init d) := by
    intro j; unfold init far; split <;> omega
  refine wp_block ((rounds_loop c P h.next (h.next + 2) (h.next + 3) (2 * (c.H + 1) + 2) h.next es (allB c) (.own id) hc hp hall (by simp [allB]; omega) (by omega) (by omega) (by omega) (by omega) (2 * (c.H + 1) + 2) 0 (init d) (fun _ => 0) hE (by omega)
    ⟨by omega, by omega, by omega, g2E, g6E, gPE, by omega, by omega⟩ hinit (by omega) g4E lE (by omega) hit).mono ?_)
  rintro x e9 hF ⟨rfl, z4, z5, gF, lF⟩
  refine ⟨.inr rfl, [.agg (arr (iter c (allB c) (2 * (c.H + 1) + 2) (init d)).1), .bool true], by simp [c80, z4, z5, gF, arr_len, arr_take], ?_, lF, ?_, rfl, rfl⟩
  · show (V.tuple (sealL [.agg (arr _), .bool true])).top ≤ h.next
    simp only [sealL, V.clasp, sealL_arr]
    show Nat.max (topL (arr _)) (Nat.max 0 0) ≤ h.next
    rw [topL_arr]
    simp
  · show V.tuple (sealL [.agg (arr _), .bool true]) = _
    simp only [sealL, V.clasp, sealL_arr]
end Go.Vi.Tryd
