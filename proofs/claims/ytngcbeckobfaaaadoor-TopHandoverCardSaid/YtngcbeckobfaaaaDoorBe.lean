/- Beat's bounds: what comparisons let be. No statement of a claim stands here. -/
import Derived.Test.YtngcbeckobfaaaaDoorBd
set_option linter.unusedSimpArgs false
set_option linter.unusedVariables false
namespace Go.Vi.Tryd
open Go Go.Vi
attribute [local simp] reg pre guarded isCall ev again Env.put alook bindArgs Opd.val ar_add ar_sub ar_mul ar_quo ar_rem ar_eql ar_neq ar_lss ar_leq ar_gtr ar_geq Env.mask List.filterMap ressOf resOf pack V.clasp sealL V.top topL get_new get_set next_new next_set low_new low_set low_mk next_mk get_mk vals sub V.isAgg V.cells V.cell1 setRange bnd ival bval fillIn minmax Nat.ne_of_lt ne2 ne3 ne4 ne5 ne6 V.same sameL Nat.beq_refl

def Ce.hr (c : Ce) (i : Nat) : Nat := if i = 0 then c.h0 else c.h1
def Ce.pair (c : Ce) (i : Nat) : V := .agg [.int .i64 (c.hr i), .int .i64 i, .int .i64 (-1), .int .i64 0, .int .i64 0]
theorem Ce.pairs_eq (c : Ce) : c.pairs = .slice 5 [c.pair 0, c.pair 1] .shut := rfl
/-- what a comparison says -/
def said (i hh : Nat) : List Bd := [⟨i, hh, -1, 0, 0⟩, ⟨-1, 0, i, hh, 0⟩]

theorem bof_run (c : Ce) (P i : Nat) (h : H) (hi : i < 2) : WC globs prog 178 [c.v6 P, c.pair i] h fun v h' p => v = .bool false ∧ h' = h ∧ p = true := by
  have hs : arith .shr (.int .i64 0) (.int .i64 (i : Int)) = some (.int .i64 0) := by
    have : i = 0 ∨ i = 1 := by omega
    rcases this with rfl | rfl <;> rfl
  have ha : arith .and (.int .i64 0) (.int .i64 1) = some (.int .i64 0) := rfl
  refine wc_pure (fn := c178) rfl rfl ?_
  refine wp_seq (wp_r (by simp [Ce.v6, Ce.cs6, Ce.pair]; rfl) ?_)
  refine wp_seq (wp_r (by simp [hs, ha]; rfl) ?_)
  refine wp_ret ?_
  simp [c178]
theorem pairs_run (c : Ce) (P : Nat) (hh : Int) (h : H) : WC globs prog 176 [c.v6 P, .int .i64 hh] h fun v h' _ => v = .func 177 [] [.ptr h.next 0, .ptr (h.next + 1) 0] ∧ h'.next = h.next + 2 ∧ Eff h h' ∧
    h'.get h.next = some (.cells (c.cs6 P)) ∧ h'.get (h.next + 1) = some (.cells [.int .i64 hh]) := by
  refine wc_eff (fn := c176) rfl rfl ?_
  refine wp_seq (wp_r (by simp [Ce.v6, Ce.cs6, Ce.rates, Ce.pairs]; rfl) ?_)
  refine wp_seq (wp_r (by simp; rfl) ?_)
  refine wp_ret ?_
  have hne : ∀ j, j < h.next → j ≠ h.next ∧ j ≠ h.next + 1 := fun j hj => by omega
  refine ⟨.inr rfl, [.func 177 [] [.ptr h.next 0, .ptr (h.next + 1) 0]], by simp [c176], by simp; omega, .inr fun j hj => by simp [hne j hj], fun h2 p q1 q2 q3 q4 => ?_⟩
  rcases q4 with q4 | ⟨q4, q5⟩
  · simp at q4; omega
  · refine ⟨rfl, by rw [q4]; simp, ⟨q1, fun j hj => by rw [q5]; simp [hne j hj], fun B c1 c2 => ?_⟩, by rw [q5]; simp [Ce.cs6, Ce.rates, Ce.pairs], by rw [q5]; simp⟩
    rcases q2 with q2 | q2
    · omega
    · simp at q2; omega

/-- the round -/
def rdEnv (t3 t4 : Nat) : Env := [(3, .ptr t3 0), (4, .ptr t4 0)]
def rdRec (t3 t4 : Nat) : LoopRec := { state := .ready, pending := none, env := rdEnv t3 t4, params := [17], assign := c172_a0, body := c172_b0 }
/-- all but the list and the round's record is kept -/
structure Kp (n0 l t3 : Nat) (h h' : H) : Prop where
  next : h.next ≤ h'.next
  get : ∀ j, j < h.next → j ≠ l → j ≠ t3 → (∀ k u, h.get j ≠ some (.tip k u)) → h'.get j = h.get j
  below : ∀ j, j < n0 → h'.get j = h.get j
  low : ∀ B, B ≤ h.low → B ≤ n0 → B ≤ h'.low
theorem Kp.trans {n0 l t3 : Nat} {h h' h'' : H} (a : Kp n0 l t3 h h') (b : Kp n0 l t3 h' h'') : Kp n0 l t3 h h'' :=
  ⟨Nat.le_trans a.next b.next, fun j h1 h2 h3 h4 => by
    have := a.get j h1 h2 h3 h4
    rw [b.get j (Nat.lt_of_lt_of_le h1 a.next) h2 h3 (by rw [this]; exact h4), this], fun j hj => (b.below j hj).trans (a.below j hj), fun B h1 h2 => b.low B (a.low B h1 h2) h2⟩
theorem _root_.Go.Vi.Eff.kp {n0 l t3 : Nat} {h h' : H} (a : Eff h h') (hn : n0 ≤ h.next) : Kp n0 l t3 h h' := ⟨a.next, fun j h1 _ _ _ => a.get j h1, fun j hj => a.get j (by omega), fun B h1 h2 => a.low B h1 (by omega)⟩
theorem Keep.kp {n0 l t3 : Nat} {h h' : H} (a : Keep n0 h h') : Kp n0 l t3 h h' := ⟨a.next, fun j h1 _ _ h4 => a.get j h1 h4, a.below, a.low⟩
/-- the list so far, the record, the hour -/
structure RSt (n0 l t3 t4 hh : Nat) (bs : List Bd) (h : H) : Prop where
  nn : n0 ≤ h.next
  ll : l < h.next
  l3 : t3 < h.next
  l4 : t4 < h.next
  b3 : n0 ≤ t3
  b4 : n0 ≤ t4
  bl : n0 ≤ l
  gl : h.get l = some (.loop (rdRec t3 t4))
  g4 : h.get t4 = some (.cells [.int .i64 hh])
  out : ∃ o, h.get t3 = some (.cells [o]) ∧ OutB n0 bs o h
  n34 : t3 ≠ t4
theorem RSt.eff {n0 l t3 t4 hh : Nat} {bs : List Bd} {h h' : H} (a : RSt n0 l t3 t4 hh bs h) (e : Eff h h') : RSt n0 l t3 t4 hh bs h' := by
  obtain ⟨a1, a2, a3, a4, a5, a6, a7, a8, a9, ⟨o, a10, a11⟩, a12⟩ := a
  have := e.next
  exact ⟨by omega, by omega, by omega, by omega, a5, a6, a7, (e.get _ a2).trans a8, (e.get _ a4).trans a9, ⟨o, (e.get _ a3).trans a10, a11.eff e⟩, a12⟩

theorem sameL_B : ∀ (bs : List Bd), sameL (bs.map Bd.v) (bs.map Bd.v) = true
  | [] => rfl
  | b :: bs => by
    show (V.same b.v b.v && sameL (bs.map Bd.v) (bs.map Bd.v)) = true
    rw [sameL_B bs]
    simp [Bd.v]
theorem OutB.same {n0 : Nat} {bs : List Bd} {o : V} {h : H} (a : OutB n0 bs o h) : V.same o o = true := by
  rcases a with ⟨-, rfl⟩ | ⟨id, rfl, -⟩
  · rfl
  · simp [sameL_B]
theorem OutB.slice {n0 : Nat} {bs : List Bd} {o : V} {h : H} (a : OutB n0 bs o h) : ∃ k es t, o = .slice k es t := by
  rcases a with ⟨-, rfl⟩ | ⟨id, rfl, -⟩ <;> exact ⟨_, _, _, rfl⟩
theorem reads_yield (c : Ce) (n0 l t3 t4 hh i : Nat) (bs : List Bd) (h : H) (hi : i < 2) (hb : bs.length ≤ 100) (hH : hh ≤ 100) (st : RSt n0 l t3 t4 hh bs h) :
    WY globs prog l [.agg [.int .i64 hh, .int .i64 i, .int .i64 (-1), .int .i64 0, .int .i64 0]] h fun v h2 _ => v = .bool true ∧ RSt n0 l t3 t4 hh (bs ++ said i hh) h2 ∧ Kp n0 l t3 h h2 ∧ h2.low ≤ l := by
  obtain ⟨a1, a2, a3, a4, a5, a6, a7, gl, g4, ⟨o, g3, ho⟩, n34⟩ := st
  obtain ⟨ok, oes, ot, rfl⟩ := ho.slice
  have n3l : t3 ≠ l := fun e => by subst e; rw [g3] at gl; cases gl
  have n4l : t4 ≠ l := fun e => by subst e; rw [g4] at gl; cases gl
  have l3n : t3 ≠ h.next := by omega
  have l4n : t4 ≠ h.next := by omega
  have lln : l ≠ h.next := by omega
  refine wy_body gl rfl (wp_r (by simp [rdRec, rdEnv]; rfl) ?_)
  have eA : Eff h ((h.new (.cells [.int .i64 0, .int .i64 0, .int .i64 0, .int .i64 0, .int .i64 0])).set h.next (.cells [.int .i64 hh, .int .i64 i, .int .i64 (-1), .int .i64 0, .int .i64 0])) := Eff.set Eff.new (Nat.le_refl _)
  have x5 : ((h.new (.cells [.int .i64 0, .int .i64 0, .int .i64 0, .int .i64 0, .int .i64 0])).set h.next (.cells [.int .i64 hh, .int .i64 i, .int .i64 (-1), .int .i64 0, .int .i64 0])).get h.next = some (.cells [.int .i64 hh, .int .i64 i, .int .i64 (-1), .int .i64 0, .int .i64 0]) := by simp
  have nA : ((h.new (.cells [.int .i64 0, .int .i64 0, .int .i64 0, .int .i64 0, .int .i64 0])).set h.next (.cells [.int .i64 hh, .int .i64 i, .int .i64 (-1), .int .i64 0, .int .i64 0])).next = h.next + 1 := rfl
  have dA : ((h.new (.cells [.int .i64 0, .int .i64 0, .int .i64 0, .int .i64 0, .int .i64 0])).set h.next (.cells [.int .i64 hh, .int .i64 i, .int .i64 (-1), .int .i64 0, .int .i64 0])).low ≤ h.low := by simp; omega
  refine ⟨rfl, rdRec t3 t4, (eA.get _ a2).trans gl, rfl, ?_⟩
  generalize (h.new (.cells [.int .i64 0, .int .i64 0, .int .i64 0, .int .i64 0, .int .i64 0])).set h.next (.cells [.int .i64 hh, .int .i64 i, .int .i64 (-1), .int .i64 0, .int .i64 0]) = hA at *
  have glA := (eA.get _ a2).trans gl
  have g3A := (eA.get _ a3).trans g3
  have g4A := (eA.get _ a4).trans g4
  have hoA := ho.eff eA
  -- the record is busy
  have kB : Kp n0 l t3 hA (hA.set l (.loop { rdRec t3 t4 with state := .busy })) := ⟨Nat.le_refl _, fun j _ h2 _ _ => by simp [h2], fun j hj => by rw [get_set, if_neg (by omega)], fun B c1 c2 => by simp; omega⟩
  have glB : (hA.set l (.loop { rdRec t3 t4 with state := .busy })).get l = some (.loop { rdRec t3 t4 with state := .busy }) := by simp [glA]
  have x5B : (hA.set l (.loop { rdRec t3 t4 with state := .busy })).get h.next = some (.cells [.int .i64 hh, .int .i64 i, .int .i64 (-1), .int .i64 0, .int .i64 0]) := by
    rw [get_set, if_neg (by omega)]; exact x5
  have g3B : (hA.set l (.loop { rdRec t3 t4 with state := .busy })).get t3 = some (.cells [.slice ok oes ot]) := by rw [get_set, if_neg n3l]; exact g3A
  have g4B : (hA.set l (.loop { rdRec t3 t4 with state := .busy })).get t4 = some (.cells [.int .i64 hh]) := by rw [get_set, if_neg n4l]; exact g4A
  have nB : (hA.set l (.loop { rdRec t3 t4 with state := .busy })).next = hA.next := rfl
  have lB : (hA.set l (.loop { rdRec t3 t4 with state := .busy })).low ≤ l := by simp; omega
  have hoB : OutB n0 bs (.slice ok oes ot) (hA.set l (.loop { rdRec t3 t4 with state := .busy })) := by
    rcases hoA with hh' | ⟨id, d1, d2, d3, d4⟩
    · exact .inl hh'
    · refine .inr ⟨id, d1, ?_, d3, d4⟩
      rw [get_set, if_neg (fun e => by rw [e, glA] at d2; cases d2)]; exact d2
  generalize hA.set l (.loop { rdRec t3 t4 with state := .busy }) = hB at *
  refine wp_block (wp_seq (wp_rc ?_))
  refine wo_p (by simp; rfl) ?_
  refine wo_fn (truth_run _) (by simp) (by simp) (by simp) ?_
  refine wo_p (by simp [spot]; rfl) ?_
  refine wo_m (by simp; rfl) ?_
  have eC : Eff hB ((hB.new (.cells [.int .i64 0, .int .i64 0])).set hB.next (.cells [.int .i64 (-1), .int .i64 0])) := Eff.set Eff.new (Nat.le_refl _)
  have x6 : ((hB.new (.cells [.int .i64 0, .int .i64 0])).set hB.next (.cells [.int .i64 (-1), .int .i64 0])).get hB.next = some (.cells [.int .i64 (-1), .int .i64 0]) := by simp
  have nC : ((hB.new (.cells [.int .i64 0, .int .i64 0])).set hB.next (.cells [.int .i64 (-1), .int .i64 0])).next = hB.next + 1 := rfl
  have lC : ((hB.new (.cells [.int .i64 0, .int .i64 0])).set hB.next (.cells [.int .i64 (-1), .int .i64 0])).low ≤ l := by simp; omega
  generalize (hB.new (.cells [.int .i64 0, .int .i64 0])).set hB.next (.cells [.int .i64 (-1), .int .i64 0]) = hC at *
  have x5C := (eC.get _ (by omega)).trans x5B
  have g3C := (eC.get _ (by omega)).trans g3B
  have g4C := (eC.get _ (by omega)).trans g4B
  have glC := (eC.get _ (by omega)).trans glB
  refine wp_seq (wp_seq (wp_r (by simp [x5C]; rfl) ?_))
  refine wp_condF rfl (wp_skip ?_)
  refine wp_rc ?_
  refine wo_p (by simp [g3C, x5C, g4C, x6]; rfl) ?_
  have hso : sameL oes oes = true := by
    have := ho.same
    simpa using this
  have nl3 : l ≠ t3 := n3l.symm
  have n43 : t4 ≠ t3 := n34.symm
  refine wo_fn (both_run i hh (-1) 0 0 0 _ (by omega)) (by simp) (by simp [spot]) (by simp [g3C, hso]) ?_
  have hoC := hoB.eff eC
  refine wo_appB (tt := .shut) (ys := said i hh) hoC (by simp) (by simp [said]) (by simp [said]) (by simp [said]; omega) (by omega) ?_
  intro o' hD hoD kD
  have g3D := kD.cells (by omega) g3C
  have g4D := kD.cells (by omega) g4C
  have glD : hD.get l = some (.loop { rdRec t3 t4 with state := .busy }) := (kD.get _ (by omega) (fun k u e => by rw [glC] at e; cases e)).trans glC
  obtain ⟨ok', oes', ot', rfl⟩ := hoD.slice
  refine wo_p (by simp [g3D]; rfl) ?_
  refine wo_m (by simp; rfl) ?_
  have nD := kD.next
  have lD : hD.low ≤ l ∨ True := .inr trivial
  have glE : (hD.set t3 (.cells [.slice ok' oes' ot'])).get l = some (.loop { rdRec t3 t4 with state := .busy }) := by rw [get_set, if_neg (fun e => n3l e.symm)]; exact glD
  refine ⟨{ rdRec t3 t4 with state := .busy }, glE, rfl, ?_, ?_, ?_⟩
  · refine ⟨by simp; omega, by simp; omega, by simp; omega, by simp; omega, a5, a6, a7, by simp [glD, nl3, X.code, rdRec], by simp [n4l, n43, g4D], ⟨.slice ok' oes' ot', by simp [n3l, g3D], ?_⟩, n34⟩
    rcases hoD with ⟨hx, -⟩ | ⟨id, d1, d2, d3, d4⟩
    · simp [said] at hx
    · refine .inr ⟨id, d1, ?_, d3, by simpa using d4⟩
      have i1 : id ≠ l := fun e => by rw [e, glD] at d2; cases d2
      have i2 : id ≠ t3 := fun e => by rw [e, g3D] at d2; cases d2
      simp [i1, i2, d2]
  · have k1 : Kp n0 l t3 h hA := eA.kp a1
    have k2 : Kp n0 l t3 hB hC := eC.kp (by omega)
    have k3 : Kp n0 l t3 hC hD := kD.kp
    refine ((k1.trans kB).trans (k2.trans k3)).trans ⟨Nat.le_refl _, fun j _ h2 h3 _ => by simp [h2, h3], fun j hj => ?_, fun B c1 c2 => by simp; omega⟩
    rw [get_set, if_neg (by omega), get_set, if_neg (by omega)]
  · simp; omega

def newAt (c : Ce) (i hh : Nat) : List Bd := if c.hr i = hh then said i hh else []
def qEnv (c : Ce) (l a1 a2 i : Nat) : Env := [(0, .yield l), (1, .ptr a1 0), (2, .ptr a2 0), (8, c.pairs), (9, .int .i64 2), (10, .int .i64 i)]
/-- the boxes of the closure -/
structure QH (c : Ce) (P l t3 a1 a2 hh : Nat) (h : H) : Prop where
  l1 : a1 < h.next
  l2 : a2 < h.next
  g1 : h.get a1 = some (.cells (c.cs6 P))
  g2 : h.get a2 = some (.cells [.int .i64 hh])
  n1 : a1 ≠ t3
  n2 : a2 ≠ t3
theorem QH.kp {c : Ce} {P l t3 a1 a2 hh n0 : Nat} {h h' : H} (q : QH c P l t3 a1 a2 hh h) {r : LoopRec} (gl : h.get l = some (.loop r)) (k : Kp n0 l t3 h h') : QH c P l t3 a1 a2 hh h' := by
  obtain ⟨l1, l2, g1, g2, n1, n2⟩ := q
  have := k.next
  exact ⟨by omega, by omega, (k.get _ l1 (fun e => by rw [← e, g1] at gl; cases gl) n1 (fun _ _ e => by rw [g1] at e; cases e)).trans g1,
    (k.get _ l2 (fun e => by rw [← e, g2] at gl; cases gl) n2 (fun _ _ e => by rw [g2] at e; cases e)).trans g2, n1, n2⟩

theorem pstep (c : Ce) (P n0 l t3 t4 a1 a2 hh i : Nat) (bs : List Bd) (h : H) (Q : X → Env → H → Prop) (hi : i < 2) (hb : bs.length ≤ 100) (hH : hh ≤ 100) (st : RSt n0 l t3 t4 hh bs h) (q : QH c P l t3 a1 a2 hh h)
    (hQ : ∀ h', RSt n0 l t3 t4 hh (bs ++ newAt c i hh) h' → Kp n0 l t3 h h' → (h'.low ≤ l ∨ (Eff h h' ∧ h'.low ≤ h.low ∧ newAt c i hh = [])) → WP globs prog none c177_l0 (qEnv c l a1 a2 (i + 1)) h' Q) :
    WP globs prog none c177_l0 (qEnv c l a1 a2 i) h Q := by
  have w1 : IntKind.wrap .i64 (i + 1 : Int) = ((i + 1 : Nat) : Int) := by rw [wrap64] <;> omega
  have hi2 : (i : Int) < 2 := by omega
  obtain ⟨es, hes, hp⟩ : ∃ es, c.pairs = .slice 5 es .shut ∧ es[i]? = some (c.pair i) := by
    refine ⟨[c.pair 0, c.pair 1], rfl, ?_⟩
    have : i = 0 ∨ i = 1 := by omega
    rcases this with rfl | rfl <;> rfl
  have next : ∀ (h' : H) (ex : Env), WP globs prog none c177_l0 (qEnv c l a1 a2 (i + 1)) h' Q → WP globs prog none c177_l0.l.r.r.r ([(0, .yield l), (1, .ptr a1 0), (2, .ptr a2 0), (8, .slice 5 es .shut), (9, .int .i64 2)] ++ (10, .int .i64 i) :: ex) h' (thenQ globs prog none c177_l0 Q) := by
    intro h' ex hq
    refine wp_r (by simp [w1, -Int.natCast_add]; rfl) ?_
    simp only [qEnv, hes] at hq
    exact hq
  refine wp_loop (wp_seq (wp_r (by simp [qEnv, hi2, hes]; rfl) ?_))
  refine wp_seq (wp_condT rfl (wp_skip ?_))
  refine wp_seq (wp_block (wp_seq (wp_r (by simp [hp, Ce.pair]; rfl) ?_)))
  have eA : Eff h ((h.new (.cells [.int .i64 0, .int .i64 0, .int .i64 0, .int .i64 0, .int .i64 0])).set h.next (.cells [.int .i64 (c.hr i), .int .i64 i, .int .i64 (-1), .int .i64 0, .int .i64 0])) := Eff.set Eff.new (Nat.le_refl _)
  have x5 : ((h.new (.cells [.int .i64 0, .int .i64 0, .int .i64 0, .int .i64 0, .int .i64 0])).set h.next (.cells [.int .i64 (c.hr i), .int .i64 i, .int .i64 (-1), .int .i64 0, .int .i64 0])).get h.next = some (.cells [.int .i64 (c.hr i), .int .i64 i, .int .i64 (-1), .int .i64 0, .int .i64 0]) := by simp
  have dA : ((h.new (.cells [.int .i64 0, .int .i64 0, .int .i64 0, .int .i64 0, .int .i64 0])).set h.next (.cells [.int .i64 (c.hr i), .int .i64 i, .int .i64 (-1), .int .i64 0, .int .i64 0])).low ≤ h.low := by simp; omega
  generalize (h.new (.cells [.int .i64 0, .int .i64 0, .int .i64 0, .int .i64 0, .int .i64 0])).set h.next (.cells [.int .i64 (c.hr i), .int .i64 i, .int .i64 (-1), .int .i64 0, .int .i64 0]) = hA at *
  have stA := st.eff eA
  have kA : Kp n0 l t3 h hA := eA.kp st.nn
  have qA := q.kp st.gl kA
  have y1 := qA.g1
  have y2 := qA.g2
  by_cases hm : c.hr i = hh
  · have hmb : ((c.hr i : Int) == (hh : Int)) = true := by simp [hm]
    have hnw : newAt c i hh = said i hh := by simp [newAt, hm]
    refine wp_seq (wp_rc ?_)
    refine wo_p (by simp [x5, y1, y2, hmb, Ce.cs6]; rfl) ?_
    refine wo_fn (bof_run c P i _ hi) (by simp) (by simp [Ce.v6, Ce.cs6, Ce.pair]) (by simp) ?_
    refine wo_p (by simp [x5]; rfl) ?_
    obtain ⟨v, h2, p, hr, rfl, st2, k2, lo2⟩ := reads_yield c n0 l t3 t4 hh i bs hA hi hb hH stA
    refine wo_yield (l := l) (args := [.agg [.int .i64 hh, .int .i64 i, .int .i64 (-1), .int .i64 0, .int .i64 0]]) (by simp) (by simp) (by simp [hm]) ⟨_, _, _, hr, by simp, ?_⟩
    refine wo_p (by simp; rfl) ?_
    refine wo_m (by simp; rfl) ?_
    refine wp_condF rfl (wp_skip ?_)
    exact next h2 [(29, .bool false)] (hQ h2 (by rw [hnw]; exact st2) (kA.trans k2) (.inl lo2))
  · have hmb : ((c.hr i : Int) == (hh : Int)) = false := by simp; omega
    have hnw : newAt c i hh = [] := by simp [newAt, hm]
    refine wp_seq (wp_r (by simp [x5, y2, hmb]; rfl) ?_)
    refine wp_condF rfl (wp_skip ?_)
    exact next hA [(29, .bool false)] (hQ hA (by rw [hnw, List.append_nil]; exact stA) kA (.inr ⟨eA, dA, hnw⟩))

theorem pairs_call (c : Ce) (P n0 l t3 t4 a1 a2 hh : Nat) (bs : List Bd) (h : H) (hb : bs.length ≤ 90) (hH : hh ≤ 100) (st : RSt n0 l t3 t4 hh bs h) (q : QH c P l t3 a1 a2 hh h) :
    WC globs prog 177 [.yield l, .ptr a1 0, .ptr a2 0] h fun _ h' _ => RSt n0 l t3 t4 hh (bs ++ (newAt c 0 hh ++ newAt c 1 hh)) h' ∧ Kp n0 l t3 h h' := by
  refine wc_split (fn := c177) rfl rfl ?_
  have st0 : RSt n0 l t3 t4 hh bs { h with low := h.next } := st.eff Eff.relow
  have q0 : QH c P l t3 a1 a2 hh { h with low := h.next } := ⟨q.l1, q.l2, q.g1, q.g2, q.n1, q.n2⟩
  have z1 := q0.g1
  simp only [get_mk] at z1
  refine wp_seq (wp_r (by simp [z1, Ce.cs6, Ce.pairs_eq]; rfl) ?_)
  have hnl : ∀ i, (newAt c i hh).length ≤ 2 := fun i => by unfold newAt; split <;> simp [said]
  have n0l := hnl 0
  refine wp_block (pstep c P n0 l t3 t4 a1 a2 hh 0 bs _ _ (by omega) (by omega) hH st0 q0 fun h1 st1 k1 lo1 => ?_)
  refine pstep c P n0 l t3 t4 a1 a2 hh 1 _ h1 _ (by omega) (by simp; omega) hH st1 (q0.kp st0.gl k1) fun h2 st2 k2 lo2 => ?_
  refine wp_loop (wp_seq (wp_r (by simp [qEnv]; rfl) ?_))
  refine wp_seq (wp_condF rfl (wp_exit ?_))
  rw [List.append_assoc] at st2
  have k12 := k1.trans k2
  have kn : h.next ≤ h2.next := k12.next
  have llt := st.ll
  have low2 : ∀ B, B ≤ h.low → B ≤ n0 → B ≤ min h.low h2.low := fun B c1 c2 => by
    have := k12.low B (by show B ≤ h.next; have := st.nn; omega) c2
    omega
  have kK : ∀ lw, (∀ B, B ≤ h.low → B ≤ n0 → B ≤ lw) → Kp n0 l t3 h { h2 with low := lw } := fun lw hlw => ⟨kn, fun j d1 d2 d3 d4 => k12.get j d1 d2 d3 d4, fun j d1 => k12.below j d1, hlw⟩
  have fin : h2.low ≤ l → ((X.normal : X) = .normal ∨ (X.normal : X) = .ret) ∧ ∃ us, ressOf (qEnv c l a1 a2 2) h2 c177.results = some us ∧ h.next ≤ h2.next ∧
      ((h2.low < h.next ∧ (RSt n0 l t3 t4 hh (bs ++ (newAt c 0 hh ++ newAt c 1 hh)) { h2 with low := min h.low h2.low } ∧ Kp n0 l t3 h { h2 with low := min h.low h2.low })) ∨ (Eff { h with low := h.next } h2 ∧ ∀ h3 (p : Bool), Eff h h3 → RSt n0 l t3 t4 hh (bs ++ (newAt c 0 hh ++ newAt c 1 hh)) h3 ∧ Kp n0 l t3 h h3)) := by
    intro hl
    exact ⟨.inl rfl, [], rfl, kn, .inl ⟨by omega, ⟨st2.nn, st2.ll, st2.l3, st2.l4, st2.b3, st2.b4, st2.bl, st2.gl, st2.g4, st2.out, st2.n34⟩, kK _ low2⟩⟩
  rcases lo2 with lo2 | ⟨e2, d2, w2⟩
  · exact fin lo2
  · rcases lo1 with lo1 | ⟨e1, d1, w1⟩
    · exact fin (by omega)
    · refine ⟨.inl rfl, [], rfl, kn, .inr ⟨e1.trans e2, fun h3 p e3 => ⟨?_, e3.kp st.nn⟩⟩⟩
      rw [w1, w2, List.append_nil, List.append_nil]
      exact st.eff e3
end Go.Vi.Tryd
