/- Beat's above: how far each spot is above one of them. No statement of a claim stands here. -/
import Derived.Test.YtngcbeckobfaaaaDoorBf
set_option linter.unusedSimpArgs false
set_option linter.unusedVariables false
namespace Go.Vi.Tryd
open Go Go.Vi
attribute [local simp] reg pre guarded isCall ev again Env.put alook bindArgs Opd.val ar_add ar_sub ar_mul ar_quo ar_rem ar_eql ar_neq ar_lss ar_leq ar_gtr ar_geq Env.mask List.filterMap ressOf resOf pack V.clasp sealL V.top topL get_new get_set next_new next_set low_new low_set low_mk next_mk get_mk vals sub V.isAgg V.cells V.cell1 setRange bnd ival bval fillIn minmax Nat.ne_of_lt ne2 ne3 ne4 ne5 ne6 V.same sameL Nat.beq_refl

/-- sixty-six numbers -/
def arr (a : Nat → Int) : List V := (List.range 66).map fun i => .int .i64 (a i)
theorem arr_len (a : Nat → Int) : (arr a).length = 66 := by simp [arr]
theorem arr_get (a : Nat → Int) {k : Nat} (hk : k < 66) : (arr a)[k]? = some (.int .i64 (a k)) := by simp [arr, hk]
def upd (a : Nat → Int) (k : Nat) (x : Int) : Nat → Int := fun j => if j = k then x else a j
theorem arr_set (a : Nat → Int) {k : Nat} (hk : k < 66) (x : Int) : (arr a).take k ++ .int .i64 x :: (arr a).drop (k + 1) = arr (upd a k x) := by
  apply List.ext_getElem?
  intro i
  have hl := arr_len a
  rcases Nat.lt_trichotomy i k with h | h | h
  · rw [List.getElem?_append_left (by simp [hl]; omega), List.getElem?_take_of_lt h, arr_get _ (by omega), arr_get _ (by omega)]
    simp [upd, show ¬ i = k by omega]
  · subst h
    rw [List.getElem?_append_right (by simp [hl]; omega), arr_get _ (by omega)]
    simp [hl, Nat.min_eq_left (Nat.le_of_lt hk), upd]
  · rw [List.getElem?_append_right (by simp [hl]; omega)]
    simp only [List.length_take, hl, Nat.min_eq_left (Nat.le_of_lt hk)]
    rw [show i - k = (i - k - 1) + 1 by omega, List.getElem?_cons_succ, List.getElem?_drop, show k + 1 + (i - k - 1) = i by omega]
    by_cases hi : i < 66
    · rw [arr_get _ hi, arr_get _ hi]
      simp [upd, show ¬ i = k by omega]
    · rw [List.getElem?_eq_none (by rw [hl]; omega), List.getElem?_eq_none (by rw [arr_len]; omega)]
theorem arr_const (x : Int) : List.replicate 66 (V.int .i64 x) = arr fun _ => x := by
  simp [arr, List.map_const', -List.reduceReplicate]
theorem arr_all (a : Nat → Int) : (arr a).all V.cell1 = true := by simp [arr]
def same66 (a b : Nat → Int) : Bool := (List.range 66).all fun i => a i == b i
theorem arr_eq (a b : Nat → Int) : eqL (arr a) (arr b) = some (same66 a b) := by
  unfold arr same66
  induction List.range 66 with
  | nil => rfl
  | cons x l ih =>
    simp only [List.map_cons, eqL, eq1, if_true, List.all_cons]
    cases h : a x == b x <;> simp [ih]
theorem arr_keys (a : Nat → Int) : keyOk true (List.replicate 66 (some .i64)) (.agg (arr a)) = true := by
  rw [show (List.replicate 66 (some IntKind.i64)) = (List.range 66).map fun _ => some IntKind.i64 by simp [List.map_const', -List.reduceReplicate]]
  show (true && kindsOk _ (arr a)) = true
  unfold arr
  rw [Bool.true_and]
  induction List.range 66 with
  | nil => rfl
  | cons x l ih => simp [kindsOk, ih]
theorem arr_agg (a : Nat → Int) {k : Nat} (hk : k < 66) : ∀ u, (arr a)[k]? = some u → u.isAgg = false := by
  intro u h; rw [arr_get a hk] at h; cases h; rfl

def far : Int := 1099511627776
theorem far_loop (t2 t3 t4 t6 : Nat) (B : Nat) : ∀ (kk i : Nat) (a : Nat → Int) (h : H), i + kk = 66 → h.get t6 = some (.cells (arr a)) → B ≤ t6 → B ≤ h.low →
    WP globs prog none c80_l0 [(2, .ptr t2 0), (3, .ptr t3 0), (4, .ptr t4 0), (6, .ptr t6 0), (16, .int .i64 i)] h fun x e' h' => x = .exit 0 ∧ (alook 2 e' = some (.ptr t2 0) ∧ alook 3 e' = some (.ptr t3 0) ∧ alook 4 e' = some (.ptr t4 0) ∧ alook 6 e' = some (.ptr t6 0)) ∧
      (∃ a', (∀ j, j < i → a' j = a j) ∧ (∀ j, i ≤ j → j < 66 → a' j = far) ∧ h'.get t6 = some (.cells (arr a'))) ∧ h'.next = h.next ∧ (∀ j, j ≠ t6 → h'.get j = h.get j) ∧ B ≤ h'.low
  | 0, i, a, h, hi, g6, b6, hB => by
    have : i = 66 := by omega
    subst this
    refine wp_loop (wp_seq (wp_r (by simp; rfl) ?_))
    refine wp_seq (wp_condF rfl (wp_exit ?_))
    exact ⟨rfl, ⟨rfl, rfl, rfl, rfl⟩, ⟨a, fun _ _ => rfl, fun j h1 h2 => by omega, g6⟩, rfl, fun _ _ => rfl, hB⟩
  | kk + 1, i, a, h, hi, g6, b6, hB => by
    have hlt : (i : Int) < 66 := by omega
    have hltn : i < 66 := by omega
    have hle : i ≤ 65 := by omega
    have w1 : IntKind.wrap .i64 (i + 1 : Int) = ((i + 1 : Nat) : Int) := by rw [wrap64] <;> omega
    refine wp_loop (wp_seq (wp_r (by simp [hlt]; rfl) ?_))
    refine wp_seq (wp_condT rfl (wp_skip ?_))
    refine wp_seq (wp_block (wp_seq (wp_r (by simp; rfl) ?_)))
    refine wp_r (by simp [hlt, g6, arr_len, hle, arr_set _ hltn]; rfl) ?_
    refine wp_r (by simp [w1, -Int.natCast_add]; rfl) ?_
    refine (far_loop t2 t3 t4 t6 B kk (i + 1) (upd a i far) _ (by omega) (by simp [g6]; rfl) b6 (by simp; omega)).mono ?_
    rintro x e' h' ⟨r0, r1, ⟨a', r2, r3, r4⟩, r5, r6, r7⟩
    refine ⟨r0, r1, ⟨a', fun j hj => ?_, fun j h1 h2 => ?_, r4⟩, r5, fun j hj => by rw [r6 j hj]; simp [hj], r7⟩
    · rw [r2 j (by omega)]; simp [upd, show ¬ j = i by omega]
    · by_cases hj : j = i
      · subst hj; rw [r2 j (by omega)]; simp [upd]
      · exact r3 j (by omega) h2

/-- the place of a spot -/
def ix (c : Ce) (a b : Int) : Nat := if a = -1 then 0 else 1 + a.toNat * (c.H + 1) + b.toNat
def valid (c : Ce) (a b : Int) : Prop := (a = -1 ∧ b = 0) ∨ (0 ≤ a ∧ a < 2 ∧ 0 ≤ b ∧ b ≤ c.H)
theorem ix_lt {c : Ce} {a b : Int} (h : valid c a b) : ix c a b < 2 * (c.H + 1) + 1 := by
  unfold ix
  split
  · omega
  · rcases h with ⟨h, -⟩ | ⟨h1, h2, h3, h4⟩
    · contradiction
    · have : a = 0 ∨ a = 1 := by omega
      rcases this with rfl | rfl <;> simp <;> omega
theorem Placed.ix {c : Ce} {es : List (V × V)} (p : Placed c es) {a b : Int} (h : valid c a b) : mlook (spot a b) es = some (some (.int .i64 (Tryd.ix c a b))) := by
  rcases h with ⟨rfl, rfl⟩ | ⟨h1, h2, h3, h4⟩
  · exact p.truth
  · have := p.at_ a.toNat b.toNat (by omega) (by omega)
    rw [Int.toNat_of_nonneg h1, Int.toNat_of_nonneg h3] at this
    rw [this]
    unfold Tryd.ix
    rw [if_neg (by omega)]
structure BdOk (c : Ce) (b : Bd) : Prop where
  of_ : valid c b.oc b.oh
  over : valid c b.vc b.vh
  lo : 0 ≤ b.by_
  hi : b.by_ ≤ 100000
def relax (c : Ce) (a : Nat → Int) (b : Bd) : Nat → Int :=
  if a (ix c b.vc b.vh) = far then a else upd a (ix c b.oc b.oh) (if a (ix c b.vc b.vh) + b.by_ < a (ix c b.oc b.oh) then a (ix c b.vc b.vh) + b.by_ else a (ix c b.oc b.oh))
def InR (a : Nat → Int) : Prop := ∀ j, 0 ≤ a j ∧ a j ≤ far
theorem relax_in {c : Ce} {a : Nat → Int} {b : Bd} (ha : InR a) (hb : BdOk c b) : InR (relax c a b) := by
  intro j
  unfold relax
  split
  · exact ha j
  · unfold upd
    have h1 := ha (ix c b.vc b.vh)
    have h2 := ha (ix c b.oc b.oh)
    have h3 := hb.lo
    split
    · split <;> omega
    · exact ha j
def aEnv (t2 t4 t6 t11 N j i : Nat) (bs : List Bd) (tt : Tip) : Env := [(2, .ptr t2 0), (4, .ptr t4 0), (6, .ptr t6 0), (8, .slice 5 (bs.map Bd.v) tt), (11, .ptr t11 0), (40, .int .i64 N), (41, .int .i64 j), (44, .slice 5 (bs.map Bd.v) tt), (45, .int .i64 bs.length), (46, .int .i64 i)]
structure AH (c : Ce) (P t2 t6 : Nat) (es : List (V × V)) (a : Nat → Int) (h : H) : Prop where
  l2 : t2 < h.next
  l6 : t6 < h.next
  lP : P < h.next
  g2 : h.get t2 = some (.cells (c.cs6 P))
  g6 : h.get t6 = some (.cells (arr a))
  gP : h.get P = some (.map es)
  n26 : t2 ≠ t6
  nP6 : P ≠ t6
theorem relax_loop (c : Ce) (P t2 t4 t6 t11 N j B : Nat) (es : List (V × V)) (bs : List Bd) (tt : Tip) (hc : c.ok) (hp : Placed c es) (hbs : ∀ b ∈ bs, BdOk c b) (hlen : bs.length ≤ 1000) (hB6 : B ≤ t6) : ∀ (kk i : Nat) (a : Nat → Int) (h : H), i + kk = bs.length → AH c P t2 t6 es a h → InR a → B ≤ h.low → B ≤ h.next →
    WP globs prog none c80_l3 (aEnv t2 t4 t6 t11 N j i bs tt) h fun x e' h' => x = .exit 6 ∧ (∀ k ∈ ([2, 4, 6, 8, 11, 40, 41] : List Nat), alook k e' = alook k (aEnv t2 t4 t6 t11 N j i bs tt)) ∧ AH c P t2 t6 es ((bs.drop i).foldl (relax c) a) h' ∧ InR ((bs.drop i).foldl (relax c) a) ∧ h.next ≤ h'.next ∧ (∀ k, k < h.next → k ≠ t6 → h'.get k = h.get k) ∧ B ≤ h'.low
  | 0, i, a, h, hi, ah, ha, hB, hN => by
    have : i = bs.length := by omega
    subst this
    refine wp_loop (wp_seq (wp_r (by simp [aEnv]; rfl) ?_))
    refine wp_seq (wp_condF rfl (wp_exit ?_))
    refine ⟨rfl, by simp [aEnv], by simpa using ah, by simpa using ha, Nat.le_refl _, fun _ _ _ => rfl, hB⟩
  | kk + 1, i, a, h, hi, ah, ha, hB, hN => by
    have hlt : i < bs.length := by omega
    have hd : bs.drop i = bs[i] :: bs.drop (i + 1) := List.drop_eq_getElem_cons hlt
    have hbo := hbs _ (List.getElem_mem hlt)
    have hg : bs[i]? = some bs[i] := List.getElem?_eq_getElem hlt
    generalize bs[i] = b at *
    have hq2 := hc.H2
    have o1 := ix_lt hbo.over
    have f1 := ix_lt hbo.of_
    have mo : mlook (.agg [.int .i64 b.vc, .int .i64 b.vh]) es = some (some (.int .i64 (ix c b.vc b.vh))) := hp.ix hbo.over
    have mf : mlook (.agg [.int .i64 b.oc, .int .i64 b.oh]) es = some (some (.int .i64 (ix c b.oc b.oh))) := hp.ix hbo.of_
    have ko : keyOk true [some .i64, some .i64] (.agg [.int .i64 b.vc, .int .i64 b.vh]) = true := rfl
    have kf : keyOk true [some .i64, some .i64] (.agg [.int .i64 b.oc, .int .i64 b.oh]) = true := rfl
    have hrel : relax c a b = if a (ix c b.vc b.vh) = far then a else upd a (ix c b.oc b.oh) (if a (ix c b.vc b.vh) + b.by_ < a (ix c b.oc b.oh) then a (ix c b.vc b.vh) + b.by_ else a (ix c b.oc b.oh)) := rfl
    have hrin := relax_in ha hbo
    rw [hd, List.foldl_cons]
    generalize ix c b.vc b.vh = o at *
    generalize ix c b.oc b.oh = f at *
    have o66 : o < 66 := by omega
    have f66 : f < 66 := by omega
    have o65 : o ≤ 65 := by omega
    have f65 : f ≤ 65 := by omega
    have oi : (o : Int) < 66 := by omega
    have fi : (f : Int) < 66 := by omega
    obtain ⟨l2, l6, lP, g2, g6, gP, n26, nP6⟩ := ah
    have ao := ha o
    have af := ha f
    have n2 : t2 ≠ h.next := by omega
    have n6 : t6 ≠ h.next := by omega
    have n6' : h.next ≠ t6 := by omega
    have nP : P ≠ h.next := by omega
    have next : ∀ (e' : Env) (h' : H), (∀ k ∈ ([2, 4, 6, 8, 11, 40, 41, 44, 45, 46] : List Nat), alook k e' = alook k (aEnv t2 t4 t6 t11 N j i bs tt)) → AH c P t2 t6 es (relax c a b) h' → h.next ≤ h'.next → (∀ k, k < h.next → k ≠ t6 → h'.get k = h.get k) → B ≤ h'.low →
        WP globs prog none c80_l3.l.r.r.r e' h' (thenQ globs prog none c80_l3 fun x e' h' => x = .exit 6 ∧ (∀ k ∈ ([2, 4, 6, 8, 11, 40, 41] : List Nat), alook k e' = alook k (aEnv t2 t4 t6 t11 N j i bs tt)) ∧ AH c P t2 t6 es ((bs.drop (i + 1)).foldl (relax c) (relax c a b)) h' ∧ InR ((bs.drop (i + 1)).foldl (relax c) (relax c a b)) ∧ h.next ≤ h'.next ∧ (∀ k, k < h.next → k ≠ t6 → h'.get k = h.get k) ∧ B ≤ h'.low) := by
      intro e' h' hj q1 q2 q3 q4
      have w1 : IntKind.wrap .i64 (i + 1 : Int) = ((i + 1 : Nat) : Int) := by rw [wrap64] <;> omega
      have j2 := hj 2 (by simp); have j4 := hj 4 (by simp); have j6 := hj 6 (by simp); have j8 := hj 8 (by simp); have j11 := hj 11 (by simp); have j40 := hj 40 (by simp); have j41 := hj 41 (by simp); have j44 := hj 44 (by simp); have j45 := hj 45 (by simp); have j46 := hj 46 (by simp)
      simp only [aEnv] at j2 j4 j6 j8 j11 j40 j41 j44 j45 j46
      refine wp_r (by simp [j2, j4, j6, j8, j11, j40, j41, j44, j45, j46, w1, -Int.natCast_add]; rfl) ?_
      refine (relax_loop c P t2 t4 t6 t11 N j B es bs tt hc hp hbs hlen hB6 kk (i + 1) (relax c a b) h' (by omega) q1 hrin q4 (by omega)).mono ?_
      rintro x e'' h'' ⟨r0, r1, r2, r3, r4, r5, r6⟩
      exact ⟨r0, fun k hk => by rw [r1 k hk]; simp at hk; rcases hk with rfl | rfl | rfl | rfl | rfl | rfl | rfl <;> simp [aEnv], r2, r3, by omega, fun k h1 h2 => by rw [r5 k (by omega) h2, q3 k h1 h2], r6⟩
    refine wp_loop (wp_seq (wp_r (by simp [aEnv, hlt]; rfl) ?_))
    refine wp_seq (wp_condT rfl (wp_skip ?_))
    refine wp_seq (wp_block (wp_seq (wp_r (by simp [hg, Bd.v]; rfl) ?_)))
    refine wp_seq (wp_r (by simp [n2, nP, g2, gP, Ce.cs6, mapOf, ko, kf, mo, mf, lookRes]; rfl) ?_)
    by_cases hfar : a o = far
    · have hfb : (a o == 1099511627776) = true := by rw [hfar]; rfl
      refine wp_seq (wp_seq (wp_r (by simp [n6, g6, oi, arr_len, o65, arr_get a o66, hfb]; rfl) ?_))
      refine wp_condT rfl (wp_exit ?_)
      rw [if_pos hfar] at hrel
      refine next _ _ (by simp [aEnv]) ?_ (by simp) (fun k h1 h2 => by simp [show k ≠ h.next by omega]) (by simp; omega)
      rw [hrel]
      exact ⟨by simp; omega, by simp; omega, by simp; omega, by simp [n2, g2], by simp [n6, g6], by simp [nP, gP], n26, nP6⟩
    · have hfb : (a o == 1099511627776) = false := by simp; exact hfar
      rw [if_neg hfar] at hrel
      have hby := hbo.lo; have hby2 := hbo.hi
      have w2 : IntKind.wrap .i64 (a o + b.by_) = a o + b.by_ := by rw [wrap64] <;> unfold far at * <;> omega
      refine wp_seq (wp_seq (wp_r (by simp [n6, g6, oi, arr_len, o65, arr_get a o66, hfb]; rfl) ?_))
      refine wp_condF rfl (wp_skip ?_)
      refine wp_r (by simp [n6, n6', g6, oi, fi, arr_len, o65, f65, arr_get a o66, arr_get a f66, w2, arr_set _ f66]; rfl) ?_
      refine next _ _ (by simp [aEnv]) ?_ (by simp) (fun k h1 h2 => by simp [show k ≠ h.next by omega, h2]) (by simp; omega)
      rw [hrel]
      exact ⟨by simp; omega, by simp; omega, by simp; omega, by simp [n2, n26, g2], by simp [n6, g6], by simp [nP, nP6, gP], n26, nP6⟩

theorem arr_take (a : Nat → Int) : (arr a).take 66 = arr a := List.take_of_length_le (by simp [arr_len])
theorem arr_drop (a : Nat → Int) : (arr a).drop 66 = [] := List.drop_eq_nil_of_le (by simp [arr_len])
/-- rounds, until one turns nothing -/
def iter (c : Ce) (bs : List Bd) : Nat → (Nat → Int) → (Nat → Int) × Bool
  | 0, a => (a, false)
  | n + 1, a => if same66 (bs.foldl (relax c) a) a then (bs.foldl (relax c) a, true) else iter c bs n (bs.foldl (relax c) a)
def lEnv (t2 t4 t6 N j : Nat) (bs : List Bd) (tt : Tip) : Env := [(2, .ptr t2 0), (4, .ptr t4 0), (6, .ptr t6 0), (8, .slice 5 (bs.map Bd.v) tt), (40, .int .i64 N), (41, .int .i64 j)]
theorem rounds_loop (c : Ce) (P t2 t4 t6 N B : Nat) (es : List (V × V)) (bs : List Bd) (tt : Tip) (hc : c.ok) (hp : Placed c es) (hbs : ∀ b ∈ bs, BdOk c b) (hlen : bs.length ≤ 1000) (hB6 : B ≤ t6) (hB4 : B ≤ t4) (h46 : t4 ≠ t6) (hN : N ≤ 1000) : ∀ (kk j : Nat) (a : Nat → Int) (z : Nat → Int) (h : H), j + kk = N → AH c P t2 t6 es a h → InR a → t4 < h.next → h.get t4 = some (.cells (arr z)) → B ≤ h.low → B ≤ h.next → (iter c bs kk a).2 = true →
    WP globs prog none c80_l2 (lEnv t2 t4 t6 N j bs tt) h fun x e' h' => x = .ret ∧ alook 4 e' = some (.ptr t4 0) ∧ alook 5 e' = some (.bool true) ∧ h'.get t4 = some (.cells (arr (iter c bs kk a).1)) ∧ B ≤ h'.low
  | 0, j, a, z, h, hi, ah, ha, l4, g4, hB, hNx, hit => by simp [iter] at hit
  | kk + 1, j, a, z, h, hi, ah, ha, l4, g4, hB, hNx, hit => by
    have hlt : j < N := by omega
    have g6 := ah.g6
    have l6 := ah.l6; have l2 := ah.l2; have lP := ah.lP
    have n6 : t6 ≠ h.next := by omega
    refine wp_loop (wp_seq (wp_r (by simp [lEnv, hlt]; rfl) ?_))
    refine wp_seq (wp_condT rfl (wp_skip ?_))
    refine wp_seq (wp_block (wp_seq (wp_r (by simp [g6, arr_len, arr_take, arr_const, arr_all, arr_drop, -List.reduceReplicate]; rfl) ?_)))
    have eA : Eff h ((h.new (.cells (arr fun _ => 0))).set h.next (.cells (arr a))) := Eff.set Eff.new (Nat.le_refl _)
    have x11 : ((h.new (.cells (arr fun _ => 0))).set h.next (.cells (arr a))).get h.next = some (.cells (arr a)) := by simp
    have nA : ((h.new (.cells (arr fun _ => 0))).set h.next (.cells (arr a))).next = h.next + 1 := rfl
    generalize (h.new (.cells (arr fun _ => 0))).set h.next (.cells (arr a)) = hA at *
    have lwA := eA.low B hB hNx
    have ahA : AH c P t2 t6 es a hA := ⟨by omega, by omega, by omega, (eA.get _ l2).trans ah.g2, (eA.get _ l6).trans g6, (eA.get _ lP).trans ah.gP, ah.n26, ah.nP6⟩
    refine wp_seq (wp_skip ?_)
    refine wp_seq (wp_seq (wp_r (by simp; rfl) ?_))
    refine wp_block ((relax_loop c P t2 t4 t6 h.next N j B es bs tt hc hp hbs hlen hB6 bs.length 0 a hA (by omega) ahA ha lwA (by omega)).mono ?_)
    rintro x e' hC ⟨rfl, hj, ahC, haC, nC, kC, lwC⟩
    have j2 := hj 2 (by simp); have j4 := hj 4 (by simp); have j6 := hj 6 (by simp); have j8 := hj 8 (by simp); have j11 := hj 11 (by simp); have j40 := hj 40 (by simp); have j41 := hj 41 (by simp)
    simp only [aEnv] at j2 j4 j6 j8 j11 j40 j41
    rw [List.drop_zero] at ahC haC
    have g6C := ahC.g6
    have x11C : hC.get h.next = some (.cells (arr a)) := (kC _ (by omega) (by omega)).trans x11
    have g4C : hC.get t4 = some (.cells (arr z)) := (kC _ (by omega) h46).trans ((eA.get _ l4).trans g4)
    simp only [iter] at hit ⊢
    generalize hpa : bs.foldl (relax c) a = a' at *
    cases hs : same66 a' a with
    | true =>
      rw [if_pos rfl]
      refine wp_seq (wp_r (by simp [j2, j4, j6, j8, j11, j40, j41, g6C, x11C, arr_len, arr_take, eqv, arr_eq, hs, arr_keys, -List.reduceReplicate]; rfl) ?_)
      refine wp_condT rfl (wp_seq (wp_r (by simp [g6C, g4C, arr_len, arr_take, arr_all, arr_drop]; rfl) ?_))
      refine wp_ret ?_
      exact ⟨rfl, rfl, rfl, by simp [g4C], by simp; omega⟩
    | false =>
      rw [hs] at hit
      simp only [Bool.false_eq_true, if_false] at hit ⊢
      have w1 : IntKind.wrap .i64 (j + 1 : Int) = ((j + 1 : Nat) : Int) := by rw [wrap64] <;> omega
      refine wp_seq (wp_r (by simp [j2, j4, j6, j8, j11, j40, j41, g6C, x11C, arr_len, arr_take, eqv, arr_eq, hs, arr_keys, -List.reduceReplicate]; rfl) ?_)
      refine wp_condF rfl (wp_skip ?_)
      refine wp_r (by simp [w1, -Int.natCast_add]; rfl) ?_
      exact rounds_loop c P t2 t4 t6 N B es bs tt hc hp hbs hlen hB6 hB4 h46 hN kk (j + 1) a' z hC (by omega) ahC haC (by omega) g4C lwC (by omega) hit
def init (d : Nat) : Nat → Int := fun j => if j = d then 0 else far
def allB (c : Ce) : List Bd := growsF c ++ readsF c ++ holdsF c
end Go.Vi.Tryd
