/- Spare's reach: how far sets of machines go. No statement of a claim stands here. -/
import Derived.Test.YtngcbeckobfaaaaDoorSd
set_option linter.unusedSimpArgs false
set_option linter.unusedVariables false
namespace Go.Vi.Tryd
open Go Go.Vi
attribute [local simp] reg pre guarded isCall ev again Env.put alook bindArgs Opd.val ar_add ar_sub ar_mul ar_quo ar_rem ar_eql ar_neq ar_lss ar_leq ar_gtr ar_geq Env.mask List.filterMap ressOf resOf pack V.clasp sealL V.top topL get_new get_set next_new next_set low_new low_set low_mk next_mk get_mk vals sub V.isAgg V.cells V.cell1 setRange bnd ival bval fillIn minmax Nat.ne_of_lt ne2 ne3 ne4 ne5 ne6 V.same sameL

/-- the round: a machine that goes on longer is the last one of the set -/
def yEnv (p1 t6 t9 t10 : Nat) : Env := [(1, .ptr p1 0), (6, .ptr t6 0), (9, .ptr t9 0), (10, .ptr t10 0)]
def yRec (p1 t6 t9 t10 : Nat) : LoopRec := { state := .ready, pending := none, env := yEnv p1 t6 t9 t10, params := [53, 54], assign := c66_a0, body := c66_b0 }
theorem reach_yield_no (p1 t6 t9 t10 l m k : Nat) (b u : Int) (h1 : H) (Fn : Nat → Option HObj) (n0 : Nat) (hl : l < n0) (hn : n0 ≤ h1.next) (gl : h1.get l = some (.loop (yRec p1 t6 t9 t10))) (g9 : h1.get t9 = some (.cells [.int .i64 b]))
    (n9 : t9 ≠ l) (hb : u ≤ b) (hF : ∀ i, i < n0 → Fn i = h1.get i) :
    WY globs prog l [.int .i64 k, .int .i64 u] h1 fun v h2 _ => v = .bool true ∧ (∀ i, i < n0 → h2.get i = Fn i) ∧ n0 ≤ h2.next ∧ min h1.low l ≤ h2.low ∧ h2.low < n0 := by
  refine wy_body gl rfl (wp_r (by simp [yRec, yEnv]; rfl) ?_)
  refine ⟨rfl, _, gl, rfl, ?_⟩
  have c : ¬ b < u := by omega
  refine wp_block (wp_seq (wp_r (by simp [n9, g9, c]; rfl) ?_))
  refine wp_condF rfl (wp_skip ?_)
  refine ⟨{ yRec p1 t6 t9 t10 with state := .busy }, by simp [gl], rfl, fun i hi => ?_, by simpa using hn, by simp [X.code]; omega, by simp; omega⟩
  rw [hF i hi]
  by_cases hil : i = l
  · subst hil; simp [gl, X.code, yRec]
  · simp [hil]
theorem reach_yield_yes (s : St) (F L p1 t6 t9 t10 l set k : Nat) (b u : Int) (h1 : H) (es es' : List (V × V)) (Fn : Nat → Option HObj) (n0 : Nat) (hl : l < n0) (hn : n0 ≤ h1.next) (gl : h1.get l = some (.loop (yRec p1 t6 t9 t10)))
    (g1 : h1.get p1 = some (.cells (stC s F L))) (g6 : h1.get t6 = some (.cells [.int .i64 set, .int .i64 (cnt set)])) (g9 : h1.get t9 = some (.cells [.int .i64 b])) (g10 : h1.get t10 = some (.cells [.int .i64 k])) (gL : h1.get L = some (.map es)) (hm : mset (key set) (.int .i64 k) es = some es')
    (n9 : t9 ≠ l) (n10 : t10 ≠ t9) (hb : b < u) (f9 : Fn t9 = some (.cells [.int .i64 u])) (fL : Fn L = some (.map es')) (hF : ∀ i, i < n0 → i ≠ t9 → i ≠ L → Fn i = h1.get i) :
    WY globs prog l [.int .i64 k, .int .i64 u] h1 fun v h2 _ => v = .bool true ∧ (∀ i, i < n0 → h2.get i = Fn i) ∧ n0 ≤ h2.next ∧ min h1.low (min l (min t9 L)) ≤ h2.low ∧ h2.low < n0 := by
  have a1 : p1 ≠ l := fun e => by subst e; rw [g1] at gl; cases gl
  have a6 : t6 ≠ l := fun e => by subst e; rw [g6] at gl; cases gl
  have a10 : t10 ≠ l := fun e => by subst e; rw [g10] at gl; cases gl
  have aL : L ≠ l := fun e => by subst e; rw [gL] at gl; cases gl
  have b1 : p1 ≠ t9 := fun e => by subst e; rw [g1] at g9; cases g9
  have b6 : t6 ≠ t9 := fun e => by subst e; rw [g6] at g9; cases g9
  have bL : L ≠ t9 := fun e => by subst e; rw [gL] at g9; cases g9
  have b9 : t9 ≠ L := fun e => bL e.symm
  have c1 : p1 ≠ L := fun e => by subst e; rw [g1] at gL; cases gL
  have c6 : t6 ≠ L := fun e => by subst e; rw [g6] at gL; cases gL
  have c10 : t10 ≠ L := fun e => by subst e; rw [g10] at gL; cases gL
  refine wy_body gl rfl (wp_r (by simp [yRec, yEnv]; rfl) ?_)
  refine ⟨rfl, _, gl, rfl, ?_⟩
  have hk : keyOk true [some .i64, some .i64] (.agg [.int .i64 set, .int .i64 (cnt set)]) = true := keyOk_key set
  have hm' : mset (.agg [.int .i64 set, .int .i64 (cnt set)]) (.int .i64 k) es = some es' := hm
  refine wp_block (wp_seq (wp_r (by simp [n9, g9, hb]; rfl) ?_))
  refine wp_condT rfl (wp_seq (wp_r (by simp [n9, g9]; rfl) ?_))
  refine wp_r (by simp [a1, a6, a10, aL, b1, b6, bL, n10, g1, g6, g10, gL, n9, g9, stC, hk, hm']; rfl) ?_
  have l9 : l ≠ t9 := fun e => n9 e.symm
  have lL : l ≠ L := fun e => aL e.symm
  refine ⟨{ yRec p1 t6 t9 t10 with state := .busy }, by simp [gl, l9, lL], rfl, fun i hi => ?_, by simpa using hn, by simp [X.code]; omega, by simp; omega⟩
  by_cases hil : i = l
  · subst hil
    rw [hF i hi l9 lL]
    simp [gl, X.code, yRec, l9, lL]
  · by_cases hi9 : i = t9
    · subst hi9
      rw [f9]
      simp [n9, g9, b9]
    · by_cases hiL : i = L
      · subst hiL
        rw [fL]
        simp [aL, gL, bL]
      · rw [hF i hi hi9 hiL]
        simp [hil, hi9, hiL]

/-- what the calculation knows: its boxes and maps -/
structure Mem (s : St) (F L p1 p2 p3 : Nat) (f g : Nat → Option Int) (h : H) : Prop where
  l1 : p1 < h.next
  l2 : p2 < h.next
  l3 : p3 < h.next
  lF : F < h.next
  lL : L < h.next
  g1 : h.get p1 = some (.cells (stC s F L))
  g2 : h.get p2 = some (.cells [.int .i64 s.hours, .int .i64 s.gap, .slice 5 (s.ms.map M.v) s.t])
  g3 : h.get p3 = some (.cells [.func 66 [] [.ptr p1 0, .ptr p2 0, .ptr p3 0]])
  mF : ∃ es, h.get F = some (.map es) ∧ MapRep es f
  mL : ∃ es, h.get L = some (.map es) ∧ MapRep es g
  ne : F ≠ L
theorem Mem.ne1 {s : St} {F L p1 p2 p3 : Nat} {f g : Nat → Option Int} {h : H} (m : Mem s F L p1 p2 p3 f g h) : p1 ≠ F ∧ p1 ≠ L ∧ p2 ≠ F ∧ p2 ≠ L ∧ p3 ≠ F ∧ p3 ≠ L := by
  obtain ⟨_, _, _, _, _, g1, g2, g3, ⟨es, gF, _⟩, ⟨es', gL, _⟩, _⟩ := m
  refine ⟨?_, ?_, ?_, ?_, ?_, ?_⟩ <;> intro e <;> subst e
  · rw [g1] at gF; cases gF
  · rw [g1] at gL; cases gL
  · rw [g2] at gF; cases gF
  · rw [g2] at gL; cases gL
  · rw [g3] at gF; cases gF
  · rw [g3] at gL; cases gL
/-- the same, where all but the maps is kept -/
theorem Mem.of {s : St} {F L p1 p2 p3 : Nat} {f g f' g' : Nat → Option Int} {h h' : H} (m : Mem s F L p1 p2 p3 f g h) (hn : h.next ≤ h'.next) (hg : ∀ i, i < h.next → i ≠ F → i ≠ L → h'.get i = h.get i)
    (mF : ∃ es, h'.get F = some (.map es) ∧ MapRep es f') (mL : ∃ es, h'.get L = some (.map es) ∧ MapRep es g') : Mem s F L p1 p2 p3 f' g' h' := by
  obtain ⟨n1, n2, n3, n4, n5, n6⟩ := m.ne1
  exact ⟨Nat.lt_of_lt_of_le m.l1 hn, Nat.lt_of_lt_of_le m.l2 hn, Nat.lt_of_lt_of_le m.l3 hn, Nat.lt_of_lt_of_le m.lF hn, Nat.lt_of_lt_of_le m.lL hn,
    (hg _ m.l1 n1 n2).trans m.g1, (hg _ m.l2 n3 n4).trans m.g2, (hg _ m.l3 n5 n6).trans m.g3, mF, mL, m.ne⟩
theorem Mem.eff {s : St} {F L p1 p2 p3 : Nat} {f g : Nat → Option Int} {h h' : H} (m : Mem s F L p1 p2 p3 f g h) (e : Eff h h') : Mem s F L p1 p2 p3 f g h' := by
  obtain ⟨es, gF, rF⟩ := m.mF
  obtain ⟨es', gL, rL⟩ := m.mL
  exact m.of e.next (fun i hi _ _ => e.get i hi) ⟨es, (e.get _ m.lF).trans gF, rF⟩ ⟨es', (e.get _ m.lL).trans gL, rL⟩

/-- all but the maps is kept -/
structure Fr (n0 F L : Nat) (h h' : H) : Prop where
  next : h.next ≤ h'.next
  get : ∀ j, j < n0 → j ≠ F → j ≠ L → h'.get j = h.get j
  low : ∀ B, B ≤ h.low → B ≤ F → B ≤ L → B ≤ n0 → B ≤ h'.low
theorem Fr.trans {n0 F L : Nat} {h h' h'' : H} (a : Fr n0 F L h h') (b : Fr n0 F L h' h'') : Fr n0 F L h h'' :=
  ⟨Nat.le_trans a.next b.next, fun j h1 h2 h3 => (b.get j h1 h2 h3).trans (a.get j h1 h2 h3), fun B h1 h2 h3 h4 => b.low B (a.low B h1 h2 h3 h4) h2 h3 h4⟩
theorem Fr.of {n0 n1 F L : Nat} {h h' : H} (a : Fr n1 F L h h') (hn : n0 ≤ n1) : Fr n0 F L h h' :=
  ⟨a.next, fun j h1 h2 h3 => a.get j (by omega) h2 h3, fun B h1 h2 h3 h4 => a.low B h1 h2 h3 (by omega)⟩
theorem _root_.Go.Vi.Eff.fr {n0 F L : Nat} {h h' : H} (a : Eff h h') (hn : n0 ≤ h.next) : Fr n0 F L h h' := ⟨a.next, fun j h1 _ _ => a.get j (by omega), fun B h1 _ _ h4 => a.low B h1 (by omega)⟩

/-- k is the last one of a set that goes on until n -/
def Last (s : St) (f : Nat → Option Int) (k set : Nat) (n : Int) : Prop :=
  ∃ hk : k < s.ms.length, set.testBit k = true ∧ ∃ n', f (del set (2 ^ k)) = some n' ∧ 0 ≤ n' ∧ (s.ms[k]).start + (s.ms[k]).warm ≤ n' ∧ (s.ms[k]).stint s.gap ≠ 0 ∧ n = n' + (s.ms[k]).stint s.gap
def Good (s : St) (f g : Nat → Option Int) : Prop :=
  ∀ set n, f set = some n → -1 ≤ n ∧ n ≤ 500 * (set : Int) ∧ (set = 0 → n = 0) ∧ (set ≠ 0 → 0 ≤ n → ∃ k : Nat, g set = some (k : Int) ∧ Last s f k set n)
def Mext (set : Nat) (f g f' g' : Nat → Option Int) : Prop := ∀ u, (f u ≠ none → f' u = f u ∧ g' u = g u) ∧ (set < u → f' u = f u ∧ g' u = g u)
/-- .. but for the set that is under way -/
def Mext' (set : Nat) (f g f' g' : Nat → Option Int) : Prop := ∀ u, u ≠ set → (f u ≠ none → f' u = f u ∧ g' u = g u) ∧ (set < u → f' u = f u ∧ g' u = g u)
theorem Mext'.refl {set : Nat} {f g : Nat → Option Int} : Mext' set f g f g := fun _ _ => ⟨fun _ => ⟨rfl, rfl⟩, fun _ => ⟨rfl, rfl⟩⟩
theorem Mext'.trans {set : Nat} {f g f1 g1 f2 g2 : Nat → Option Int} (a : Mext' set f g f1 g1) (b : Mext' set f1 g1 f2 g2) : Mext' set f g f2 g2 := fun u hu =>
  ⟨fun h => by obtain ⟨h1, h2⟩ := (a u hu).1 h; obtain ⟨h3, h4⟩ := (b u hu).1 (by rw [h1]; exact h); exact ⟨h3.trans h1, h4.trans h2⟩,
    fun h => by obtain ⟨h1, h2⟩ := (a u hu).2 h; obtain ⟨h3, h4⟩ := (b u hu).2 h; exact ⟨h3.trans h1, h4.trans h2⟩⟩
theorem Mext.to {set' set : Nat} {f g f' g' : Nat → Option Int} (a : Mext set' f g f' g') (h : set' < set) : Mext' set f g f' g' := fun u _ => ⟨(a u).1, fun hu => (a u).2 (by omega)⟩
theorem Last.mono {s : St} {f f' : Nat → Option Int} {k set : Nat} {n : Int} (a : Last s f k set n) (h : ∀ u, f u ≠ none → f' u = f u) : Last s f' k set n := by
  obtain ⟨hk, hb, n', h1, h2⟩ := a
  exact ⟨hk, hb, n', (h _ (by rw [h1]; simp)).trans h1, h2⟩
/-- the set under way -/
structure LInv (s : St) (set : Nat) (b : Int) (f g : Nat → Option Int) : Prop where
  none : f set = Option.none
  zero : set = 0 → b = 0
  low : -1 ≤ b
  high : b ≤ 500 * (set : Int)
  last : set ≠ 0 → 0 ≤ b → ∃ k : Nat, g set = some (k : Int) ∧ Last s f k set b
theorem LInv.ext {s : St} {set set' : Nat} {b : Int} {f g f' g' : Nat → Option Int} (a : LInv s set b f g) (h : Mext set' f g f' g') (hs : set' < set) : LInv s set b f' g' := by
  obtain ⟨h1, h2⟩ := (h set).2 hs
  refine ⟨h1.trans a.none, a.zero, a.low, a.high, fun h3 h4 => ?_⟩
  obtain ⟨k, h5, h6⟩ := a.last h3 h4
  exact ⟨k, h2.trans h5, h6.mono fun u hu => ((h u).1 hu).1⟩

def RSpec (s : St) (F L p1 p2 p3 set : Nat) : Prop := ∀ f g h, Mem s F L p1 p2 p3 f g h → Good s f g → WC globs prog 66 [.int .i64 set, .ptr p1 0, .ptr p2 0, .ptr p3 0] h fun v h' _ =>
  ∃ n f' g', v = .int .i64 n ∧ f' set = some n ∧ Good s f' g' ∧ Mext set f g f' g' ∧ Mem s F L p1 p2 p3 f' g' h' ∧ Fr h.next F L h h'
def rEnv (s : St) (set p1 p3 t6 t9 i : Nat) : Env := [(0, .int .i64 set), (1, .ptr p1 0), (3, .ptr p3 0), (5, .int .i64 0), (6, .ptr t6 0), (9, .ptr t9 0), (31, .int .i64 s.ms.length), (32, .int .i64 i)]

theorem reach_loop (s : St) (F L p1 p2 p3 set n0 t6 t9 : Nat) (hs : s.ok) (hset : set < 256) (IH : ∀ set', set' < set → RSpec s F L p1 p2 p3 set') (hF : F < n0) (hL : L < n0) (hP1 : p1 < n0) (hP2 : p2 < n0) (hP3 : p3 < n0) (h6 : n0 ≤ t6) (h9 : n0 ≤ t9) (h69 : t6 ≠ t9) : ∀ (kk i : Nat) (f g : Nat → Option Int) (b : Int) (h : H), i + kk = s.ms.length →
    Mem s F L p1 p2 p3 f g h → Good s f g → LInv s set b f g → n0 ≤ h.next → t6 < h.next → t9 < h.next → h.get t6 = some (.cells [.int .i64 set, .int .i64 (cnt set)]) → h.get t9 = some (.cells [.int .i64 b]) →
    WP globs prog none c66_l0 (rEnv s set p1 p3 t6 t9 i) h fun x e' h' => x = .exit 0 ∧ alook 1 e' = some (.ptr p1 0) ∧ alook 6 e' = some (.ptr t6 0) ∧ alook 9 e' = some (.ptr t9 0) ∧
      ∃ f' g' b', Mem s F L p1 p2 p3 f' g' h' ∧ Good s f' g' ∧ LInv s set b' f' g' ∧ Mext' set f g f' g' ∧ h'.get t6 = some (.cells [.int .i64 set, .int .i64 (cnt set)]) ∧ h'.get t9 = some (.cells [.int .i64 b']) ∧ Fr n0 F L h h' ∧ t6 < h'.next ∧ t9 < h'.next
  | 0, i, f, g, b, h, hi, hm, hg, hl, hn, l6, l9, g6, g9 => by
    have : i = s.ms.length := by omega
    subst this
    refine wp_loop (wp_seq (wp_r (by simp [rEnv]; rfl) ?_))
    refine wp_seq (wp_condF rfl (wp_exit ?_))
    exact ⟨rfl, rfl, rfl, rfl, f, g, b, hm, hg, hl, Mext'.refl, g6, g9, Eff.refl.fr hn, l6, l9⟩
  | kk + 1, i, f, g, b, h, hi, hm, hg, hl, hn, l6, l9, g6, g9 => by
    have hlt : i < s.ms.length := by omega
    have hs' := hs
    obtain ⟨s1, s2, s3, s4, s5, s6, s7⟩ := hs'
    have next : ∀ (e' : Env) (h' : H) (f' g' : Nat → Option Int) (b' : Int), (∀ j ∈ ([0, 1, 3, 5, 6, 9, 31, 32] : List Nat), alook j e' = alook j (rEnv s set p1 p3 t6 t9 i)) → Mem s F L p1 p2 p3 f' g' h' → Good s f' g' → LInv s set b' f' g' → Mext' set f g f' g' → h'.get t6 = some (.cells [.int .i64 set, .int .i64 (cnt set)]) → h'.get t9 = some (.cells [.int .i64 b']) → Fr n0 F L h h' →
        WP globs prog none c66_l0.l.r.r.r e' h' (thenQ globs prog none c66_l0 fun x e' h' => x = .exit 0 ∧ alook 1 e' = some (.ptr p1 0) ∧ alook 6 e' = some (.ptr t6 0) ∧ alook 9 e' = some (.ptr t9 0) ∧
      ∃ f' g' b', Mem s F L p1 p2 p3 f' g' h' ∧ Good s f' g' ∧ LInv s set b' f' g' ∧ Mext' set f g f' g' ∧ h'.get t6 = some (.cells [.int .i64 set, .int .i64 (cnt set)]) ∧ h'.get t9 = some (.cells [.int .i64 b']) ∧ Fr n0 F L h h' ∧ t6 < h'.next ∧ t9 < h'.next) := by
      intro e' h' f' g' b' hj q1 q2 q3 q4 q5 q6 q7
      have w1 : IntKind.wrap .i64 (i + 1 : Int) = ((i + 1 : Nat) : Int) := by rw [wrap64] <;> omega
      have j0 := hj 0 (by simp); have j1 := hj 1 (by simp); have j3 := hj 3 (by simp); have j5 := hj 5 (by simp); have j6 := hj 6 (by simp); have j9 := hj 9 (by simp); have j31 := hj 31 (by simp); have j32 := hj 32 (by simp)
      simp only [rEnv] at j0 j1 j3 j5 j6 j9 j31 j32
      refine wp_r (by simp [j0, j1, j3, j5, j6, j9, j31, j32, w1, -Int.natCast_add]; rfl) ?_
      refine (reach_loop s F L p1 p2 p3 set n0 t6 t9 hs hset IH hF hL hP1 hP2 hP3 h6 h9 h69 kk (i + 1) f' g' b' h' (by omega) q1 q2 q3 (Nat.le_trans hn q7.next) (Nat.lt_of_lt_of_le l6 q7.next) (Nat.lt_of_lt_of_le l9 q7.next) q5 q6).mono ?_
      rintro x e'' h'' ⟨r0, r1, r2, r3, f2, g2, b2, r4, r5, r6, r7, r8, r9, r10, r11⟩
      exact ⟨r0, r1, r2, r3, f2, g2, b2, r4, r5, r6, q4.trans r7, r8, r9, q7.trans r10, r11⟩
    refine wp_loop (wp_seq (wp_r (by simp [rEnv, hlt]; rfl) ?_))
    refine wp_seq (wp_condT rfl (wp_skip ?_))
    refine wp_seq (wp_block (wp_seq (wp_r (by simp; rfl) ?_)))
    have hE : ∀ o, Eff h ((h.new (.cells [.int .i64 0])).set h.next o) := fun o => Eff.set Eff.new (Nat.le_refl _)
    have hshr := ar_shr' (a := set) (k := i) (by omega)
    have hand := ar_bit (a := set) i (by omega)
    have h1n : h.next + 1 ≤ ((h.new (.cells [.int .i64 0])).set h.next (.cells [.int .i64 i])).next := by simp
    have h1g : ((h.new (.cells [.int .i64 0])).set h.next (.cells [.int .i64 i])).get h.next = some (.cells [.int .i64 i]) := by simp
    have e1 := hE (.cells [.int .i64 i])
    generalize (h.new (.cells [.int .i64 0])).set h.next (.cells [.int .i64 i]) = h1 at *
    have m1 := hm.eff e1
    have x6 : h1.get t6 = some (.cells [.int .i64 set, .int .i64 (cnt set)]) := (e1.get _ l6).trans g6
    have x9 : h1.get t9 = some (.cells [.int .i64 b]) := (e1.get _ l9).trans g9
    cases hbit : set.testBit i
    · rw [hbit] at hand
      refine wp_seq (wp_seq (wp_r (by simp [h1g, hshr, hand]; rfl) ?_))
      refine wp_condT rfl (wp_exit ?_)
      exact next _ h1 f g b (by simp [rEnv]) m1 hg hl Mext'.refl x6 x9 (e1.fr hn)
    rw [hbit] at hand
    refine wp_seq (wp_seq (wp_r (by simp [h1g, hshr, hand]; rfl) ?_))
    refine wp_condF rfl (wp_skip ?_)
    have hdel := del_lt hbit
    have hshl := ar_shl (b := i) (by omega)
    have hpw : 2 ^ i ≤ 2 ^ 8 := Nat.pow_le_pow_right (by omega) (by omega)
    have han := ar_andNot (a := set) (b := 2 ^ i) (by omega) (by omega)
    have y3 := m1.g3
    generalize hpe : (2 ^ i : Nat) = pw at *
    refine wp_seq (wp_rc ?_)
    refine wo_p (by simp [y3, h1g, hshl, han]; rfl) ?_
    refine wo_call (k := 66) (first := []) (args := [.int .i64 (del set pw : Nat)]) (caps := [.ptr p1 0, .ptr p2 0, .ptr p3 0]) (by simp) (by simp) (by simp) ((IH _ hdel f g h1 m1 hg).mono ?_)
    rintro v h2 p ⟨n, f2, g2, rfl, hf2, hg2, hx2, m2, fr2⟩
    refine ⟨fun h => (by cases h), by simp, ?_⟩
    refine wo_p (by simp; rfl) ?_
    refine wo_m (by simp; rfl) ?_
    have lF1 := m1.lF
    have z10 : h2.get h.next = some (.cells [.int .i64 i]) := (fr2.get _ (by omega) (by omega) (by omega)).trans h1g
    have z6 : h2.get t6 = some (.cells [.int .i64 set, .int .i64 (cnt set)]) := (fr2.get _ (by omega) (by omega) (by omega)).trans x6
    have z9 : h2.get t9 = some (.cells [.int .i64 b]) := (fr2.get _ (by omega) (by omega) (by omega)).trans x9
    have hl2 := hl.ext hx2 hdel
    have hM2 := hx2.to hdel
    have F2 : Fr n0 F L h h2 := (e1.fr hn).trans (fr2.of (by omega))
    obtain ⟨b1, b2, b3, b4⟩ := hg2 _ _ hf2
    by_cases hneg : n < 0
    · refine wp_seq (wp_seq (wp_r (by simp [hneg]; rfl) ?_))
      refine wp_condT rfl (wp_exit ?_)
      exact next _ h2 f2 g2 b (by simp [rEnv]) m2 hg2 hl2 hM2 z6 z9 F2
    refine wp_seq (wp_seq (wp_r (by simp [hneg]; rfl) ?_))
    refine wp_condF rfl (wp_skip ?_)
    have u1 := m2.g1
    refine wp_seq (wp_rc ?_)
    refine wo_p (by simp [u1, z10, hshl, stC]; rfl) ?_
    refine wo_call (k := 67) (first := []) (args := [stV s F L, .int .i64 (pw : Int), .int .i64 n, .int .i64 0]) (caps := []) (by simp) (by simp) (by simp [stV]) ((follow_run s F L _ n 0 h2).mono ?_)
    rintro v h3 p ⟨rfl, k1, k2, k3, k4, k5, k6, k7⟩
    refine ⟨fun h => (by cases h), by simp, ?_⟩
    refine wo_p (by simp; rfl) ?_
    refine wo_m (by simp; rfl) ?_
    have e3 : Eff h2 h3 := ⟨by omega, k7, fun B q1 q2 => by rcases k2 with k2 | k2 <;> omega⟩
    have m3 := m2.eff e3
    have l10 : h.next < h2.next := by have := fr2.next; omega
    have l62 : t6 < h2.next := by have := fr2.next; have := e1.next; omega
    have l92 : t9 < h2.next := by have := fr2.next; have := e1.next; omega
    have v10 := (e3.get _ l10).trans z10
    have v6 := (e3.get _ l62).trans z6
    have v9 := (e3.get _ l92).trans z9
    refine wp_block (wp_range (g := 106) (first := []) (caps := [.ptr h2.next 0, .ptr (h2.next + 1) 0, .ptr (h2.next + 2) 0, .ptr (h2.next + 3) 0]) (by simp) rfl ?_)
    show WC globs prog 106 [.yield h3.next, .ptr h2.next 0, .ptr (h2.next + 1) 0, .ptr (h2.next + 2) 0, .ptr (h2.next + 3) 0] (h3.new (.loop (yRec p1 t6 t9 h.next))) _
    have l3 : h2.next < h3.next := by omega
    have eN : Eff h3 (h3.new (.loop (yRec p1 t6 t9 h.next))) := Eff.new
    have gl : (h3.new (.loop (yRec p1 t6 t9 h.next))).get h3.next = some (.loop (yRec p1 t6 t9 h.next)) := by simp
    have nN : (h3.new (.loop (yRec p1 t6 t9 h.next))).next = h3.next + 1 := rfl
    have lN : (h3.new (.loop (yRec p1 t6 t9 h.next))).low = h3.low := rfl
    generalize h3.new (.loop (yRec p1 t6 t9 h.next)) = h4 at *
    have fh : FHeap s F L i h2.next (h2.next + 1) (h2.next + 2) (h2.next + 3) n 0 h4 :=
      ⟨by omega, by omega, by omega, by omega, (eN.get _ (by omega)).trans k3, by rw [hpe]; exact (eN.get _ (by omega)).trans k4, (eN.get _ (by omega)).trans k5, (eN.get _ (by omega)).trans k6⟩
    have hbd : -100000 ≤ n ∧ n ≤ 1000000 := by omega
    have hmi := s7 s.ms[i] (List.getElem_mem _)
    have q1 := stint_bd (g := s.gap) hmi ⟨s3, s4⟩
    have q2 := last_bd hmi
    -- nothing turned
    have keep : ∀ h5 : H, (∀ j, j < h4.next → h5.get j = h4.get j) → h4.next ≤ h5.next → min h4.low h3.next ≤ h5.low → ∃ q, h5.get h3.next = some (.loop q) ∧ q.state ≠ .busy ∧
        blockQ 2 (blockQ 1 (thenQ globs prog none c66_l0.l.r.r.r (thenQ globs prog none c66_l0 fun x e' h' => x = .exit 0 ∧ alook 1 e' = some (.ptr p1 0) ∧ alook 6 e' = some (.ptr t6 0) ∧ alook 9 e' = some (.ptr t9 0) ∧
      ∃ f' g' b', Mem s F L p1 p2 p3 f' g' h' ∧ Good s f' g' ∧ LInv s set b' f' g' ∧ Mext' set f g f' g' ∧ h'.get t6 = some (.cells [.int .i64 set, .int .i64 (cnt set)]) ∧ h'.get t9 = some (.cells [.int .i64 b']) ∧ Fr n0 F L h h' ∧ t6 < h'.next ∧ t9 < h'.next)))
          (match q.pending with | none => .normal | some .ret => .ret | some (.exit id) => .exit id)
          ((0, .int .i64 set) :: (1, .ptr p1 0) :: (3, .ptr p3 0) :: (5, .int .i64 0) :: (6, .ptr t6 0) :: (9, .ptr t9 0) :: (10, .ptr h.next 0) :: (31, .int .i64 s.ms.length) :: (32, .int .i64 i) :: (52, .func 106 [] [.ptr h2.next 0, .ptr (h2.next + 1) 0, .ptr (h2.next + 2) 0, .ptr (h2.next + 3) 0]) :: []) (h5.set h3.next .dead) := by
      intro h5 r1 r2 r3
      refine ⟨yRec p1 t6 t9 h.next, (r1 _ (by omega)).trans gl, by simp [yRec], ?_⟩
      have e5 : Eff h3 (h5.set h3.next .dead) := by
        refine Eff.set (h' := h5) ⟨by omega, fun j hj => ?_, fun B c1 c2 => by omega⟩ (Nat.le_refl _)
        rw [r1 j (by omega), eN.get j hj]
      exact next _ _ f2 g2 b (by simp [rEnv]) (m3.eff e5) hg2 hl2 hM2 ((e5.get _ (by omega)).trans v6) ((e5.get _ (by omega)).trans v9) (F2.trans ((e3.trans e5).fr (by have := fr2.next; omega)))
    by_cases hc : n < s.ms[i].start + s.ms[i].warm ∨ s.ms[i].stint s.gap = 0
    · refine (fno0 s F L i _ _ _ _ _ n h4 hs (by omega) hbd fh fun _ => hc).mono ?_
      rintro v h5 p he
      exact keep h5 he.get he.next (he.low _ (by omega) (by omega))
    have hc1 : s.ms[i].start + s.ms[i].warm ≤ n := by omega
    have hc2 : s.ms[i].stint s.gap ≠ 0 := fun e => hc (.inr e)
    by_cases hb : n + s.ms[i].stint s.gap ≤ b
    · refine (fone0 s F L i _ _ _ _ h3.next h3.next n h4 h4.get hs (by omega) hbd fh hlt hc1 hc2 rfl rfl rfl rfl (fun h5 he => ?_) (by omega)).mono ?_
      · refine (reach_yield_no p1 t6 t9 h.next h3.next i i b _ h5 h4.get h4.next (by omega) he.next ((he.get _ (by omega)).trans gl) ((he.get _ (by omega)).trans ((eN.get _ (by omega)).trans v9)) (by omega) hb fun j hj => (he.get j hj).symm) |> fun w => ?_
        obtain ⟨v, h6, p, hr, c1, c2, c3, c4, c5⟩ := w
        exact ⟨v, h6, p, hr, c1, c2, c3, by have := he.low (min h4.low h3.next) (by omega) (by omega); omega, c5⟩
      · rintro v h5 p ⟨r1, r2, r3⟩
        exact keep h5 r1 r2 r3
    · obtain ⟨esL, gL, rL⟩ := m3.mL
      obtain ⟨es', hms, rL'⟩ := rL.set set i
      have nF := hm.ne
      have lL3 := m3.lL
      have hFn : ∀ j, (fun j => if j = t9 then some (HObj.cells [.int .i64 (n + s.ms[i].stint s.gap)]) else if j = L then some (.map es') else h4.get j) j = if j = t9 then some (HObj.cells [.int .i64 (n + s.ms[i].stint s.gap)]) else if j = L then some (.map es') else h4.get j := fun _ => rfl
      generalize (fun j => if j = t9 then some (HObj.cells [.int .i64 (n + s.ms[i].stint s.gap)]) else if j = L then some (.map es') else h4.get j) = Fn at hFn
      have hF0 : ∀ j, j ≠ t9 → j ≠ L → Fn j = h4.get j := fun j q1 q2 => by rw [hFn, if_neg q1, if_neg q2]
      refine (fone0 s F L i _ _ _ _ h3.next (min h3.next (min t9 L)) n h4 Fn hs (by omega) hbd fh hlt hc1 hc2 (hF0 _ (by omega) (by have := m2.lL; omega)) (hF0 _ (by omega) (by have := m2.lL; omega)) (hF0 _ (by omega) (by have := m2.lL; omega)) (hF0 _ (by omega) (by have := m2.lL; omega)) (fun h5 he => ?_) (by omega)).mono ?_
      · obtain ⟨v, h6, p, hr, c1, c2, c3, c4, c5⟩ := reach_yield_yes s F L p1 t6 t9 h.next h3.next set i b _ h5 esL es' Fn h4.next (by omega) he.next ((he.get _ (by omega)).trans gl) ((he.get _ (by have := m3.l1; omega)).trans ((eN.get _ m3.l1).trans m3.g1)) ((he.get _ (by omega)).trans ((eN.get _ (by omega)).trans v6))
          ((he.get _ (by omega)).trans ((eN.get _ (by omega)).trans v9)) ((he.get _ (by omega)).trans ((eN.get _ (by omega)).trans v10)) ((he.get _ (by omega)).trans ((eN.get _ lL3).trans gL)) hms (by omega) (by omega) (by omega : b < n + s.ms[i].stint s.gap) (by rw [hFn, if_pos rfl]) (by rw [hFn, if_neg (by omega), if_pos rfl]) (fun j hj q1 q2 => (hF0 j q1 q2).trans (he.get j hj).symm)
        exact ⟨v, h6, p, hr, c1, c2, c3, by have := he.low (min h4.low (min h3.next (min t9 L))) (by omega) (by omega); omega, c5⟩
      · rintro v h5 p ⟨r1, r2, r3⟩
        refine ⟨yRec p1 t6 t9 h.next, by rw [r1 _ (by omega), hF0 _ (by omega) (by omega), gl], by simp [yRec], ?_⟩
        have set0 : set ≠ 0 := fun e => by rw [e] at hbit; simp at hbit
        have gd : ∀ j, j < h3.next → (h5.set h3.next .dead).get j = Fn j := fun j hj => by
          rw [get_set, if_neg (by omega), r1 j (by omega)]
        have g3j : ∀ j, j < h3.next → j ≠ t9 → j ≠ L → (h5.set h3.next .dead).get j = h3.get j := fun j hj q1 q2 => by rw [gd j hj, hF0 j q1 q2, eN.get j hj]
        have t9F : t9 ≠ F := by omega
        have mm : Mem s F L p1 p2 p3 f2 (fun u => if u = set then some (i : Int) else g2 u) (h5.set h3.next .dead) := by
          obtain ⟨n1, n2, n3, n4, n5, n6⟩ := m3.ne1
          have d1 := m3.l1; have d2 := m3.l2; have d3 := m3.l3
          obtain ⟨esF, gF, rF⟩ := m3.mF
          have d4 := m3.lF
          have hn5 : h3.next ≤ (h5.set h3.next .dead).next := by show h3.next ≤ h5.next; omega
          exact ⟨by omega, by omega, by omega, by omega, by omega, (g3j _ d1 (by omega) n2).trans m3.g1, (g3j _ d2 (by omega) n4).trans m3.g2, (g3j _ d3 (by omega) n6).trans m3.g3,
            ⟨esF, (g3j _ d4 t9F.symm nF).trans gF, rF⟩, ⟨es', by rw [gd _ lL3, hFn, if_neg (by omega), if_pos rfl], rL'⟩, nF⟩
        have fset : f2 set = none := hl2.none
        refine next _ _ f2 _ (n + s.ms[i].stint s.gap) (by simp [rEnv]) mm ?_ ?_ ?_ ?_ ?_ ?_
        · intro u m hu
          obtain ⟨c1, c2, c3, c4⟩ := hg2 u m hu
          refine ⟨c1, c2, c3, fun q1 q2 => ?_⟩
          obtain ⟨k, c5, c6⟩ := c4 q1 q2
          have : u ≠ set := fun e => by rw [e, fset] at hu; cases hu
          exact ⟨k, by simp only [if_neg this]; exact c5, c6⟩
        · refine ⟨fset, fun e => absurd e set0, by omega, by have := hdel; omega, fun _ _ => ⟨i, by simp, hlt, hbit, n, by rw [hpe]; exact hf2, by omega, hc1, hc2, rfl⟩⟩
        · refine hM2.trans fun u hu => ?_
          simp [if_neg hu]
        · rw [gd _ (by omega), hF0 _ h69 (by omega), eN.get _ (by omega)]; exact v6
        · rw [gd _ (by omega), hFn, if_pos rfl]
        · refine F2.trans ((e3.fr (by have := fr2.next; omega)).trans ⟨by show h3.next ≤ h5.next; omega, fun j q1 q2 q3 => g3j j (by have := fr2.next; omega) (by omega) q3, fun B q1 q2 q3 q4 => ?_⟩)
          show B ≤ min h3.next h5.low
          have := fr2.next
          omega

theorem reach_run (s : St) (F L p1 p2 p3 : Nat) (hs : s.ok) : ∀ set, set < 256 → RSpec s F L p1 p2 p3 set := by
  intro set
  induction set using Nat.strongRecOn with
  | _ set ih =>
    intro hset f g h hm hg
    obtain ⟨es, gF, rF⟩ := hm.mF
    have hk : keyOk true [some .i64, some .i64] (.agg [.int .i64 set, .int .i64 (cnt set)]) = true := keyOk_key set
    have hlk : mlook (.agg [.int .i64 set, .int .i64 (cnt set)]) es = some ((f set).map (V.int .i64 ·)) := rF.look set
    obtain ⟨n1, n2, n3, n4, n5, n6⟩ := hm.ne1
    have l1 := hm.l1; have l2 := hm.l2; have l3 := hm.l3; have lF := hm.lF; have lL := hm.lL; have hne := hm.ne
    refine wc_eff (fn := c66) rfl rfl ?_
    refine wp_seq (wp_r (by simp; rfl) ?_)
    refine wp_seq (wp_rc ?_)
    refine wo_p (by simp; rfl) ?_
    refine wo_fn (count_run set _ (by omega)) (by simp) (by simp) (by simp) ?_
    refine wo_p (by simp; rfl) ?_
    refine wo_m (by simp; rfl) ?_
    have g1 := hm.g1
    have p1n : p1 ≠ h.next := by omega
    have Fn : F ≠ h.next := by omega
    cases hf : f set with
    | some n =>
      rw [hf] at hlk
      refine wp_seq (wp_seq (wp_r (by simp [p1n, Fn, g1, stC, hk, hlk, mapOf, gF, lookRes]; rfl) ?_))
      refine wp_seq (wp_r (by simp; rfl) ?_)
      refine wp_condT rfl (wp_seq (wp_r (by simp; rfl) ?_))
      refine wp_ret ?_
      have hj' : ∀ j, j < h.next → j ≠ h.next := fun j h => by omega
      refine ⟨.inr rfl, [.int .i64 n], rfl, by simp, .inr (fun j hj => by simp [hj' j hj]), fun h2 p q1 q2 q3 q4 => ?_⟩
      have e2 : Eff h h2 := ⟨q1, fun j hj => by rw [q3 j hj]; simp [hj' j hj], fun B c1 c2 => by
        rcases q2 with q2 | q2
        · omega
        · simp at q2; omega⟩
      exact ⟨n, f, g, rfl, hf, hg, fun u => ⟨fun _ => ⟨rfl, rfl⟩, fun _ => ⟨rfl, rfl⟩⟩, hm.eff e2, e2.fr (Nat.le_refl _)⟩
    | none =>
      rw [hf] at hlk
      refine wp_seq (wp_seq (wp_r (by simp [p1n, Fn, g1, stC, hk, hlk, mapOf, gF, lookRes]; rfl) ?_))
      refine wp_seq (wp_r (by simp; rfl) ?_)
      refine wp_condF rfl (wp_skip ?_)
      refine wp_seq (wp_r (by simp; rfl) ?_)
      have rest : ∀ (b : Int) (hA : H) (ex : Env), (set = 0 → b = 0) → (set ≠ 0 → b = -1) → Eff h hA → hA.next = h.next + 2 → hA.low = h.next → hA.get h.next = some (.cells [.int .i64 set, .int .i64 (cnt set)]) → hA.get (h.next + 1) = some (.cells [.int .i64 b]) →
          WP globs prog none c66.body.r.r.r.r.r ((0, .int .i64 set) :: (1, .ptr p1 0) :: (2, .ptr p2 0) :: (3, .ptr p3 0) :: (5, .int .i64 0) :: (6, .ptr h.next 0) :: (9, .ptr (h.next + 1) 0) :: ex) hA fun x e1 h1 => (x = .normal ∨ x = .ret) ∧ ∃ us, ressOf e1 h1 c66.results = some us ∧ h.next ≤ h1.next ∧
            (h1.low < h.next ∨ ∀ i, i < h.next → h1.get i = h.get i) ∧
            ∀ h2 (p : Bool), h.next ≤ h2.next → (h2.low = h.low ∨ h2.low = min h.low h1.low) → (∀ i, i < h.next → h2.get i = h1.get i) → ((pack us).clasp.top ≤ h.next ∨ (h2.next = h1.next ∧ ∀ i, h2.get i = h1.get i)) →
              ∃ n f' g', (pack us).clasp = .int .i64 n ∧ f' set = some n ∧ Good s f' g' ∧ Mext set f g f' g' ∧ Mem s F L p1 p2 p3 f' g' h2 ∧ Fr h.next F L h h2 := by
        intro b hA ex hb0 hb1 eA nA lA gA6 gA9
        have mA := hm.eff eA
        have y2 := mA.g2
        refine wp_seq (wp_seq (wp_r (by simp [y2]; rfl) ?_))
        refine wp_block ((reach_loop s F L p1 p2 p3 set h.next h.next (h.next + 1) hs hset (fun u hu => ih u hu (by omega)) lF lL l1 l2 l3 (by omega) (by omega) (by omega) s.ms.length 0 f g b hA (by omega) mA hg ⟨hf, hb0, by omega, by omega, fun q1 q2 => by have := hb1 q1; omega⟩ (by omega) (by omega) (by omega) gA6 gA9).mono ?_)
        rintro x e' h' ⟨rfl, j1, j6, j9, f', g', b', mB, gB, lB, xB, gB6, gB9, fB, nB6, nB9⟩
        obtain ⟨esF, gBF, rBF⟩ := mB.mF
        obtain ⟨es', hms, rF'⟩ := rBF.set set b'
        have hms' : mset (.agg [.int .i64 set, .int .i64 (cnt set)]) (.int .i64 b') esF = some es' := hms
        have z1 := mB.g1
        have a6 : h.next ≠ F := by omega
        have a9 : h.next + 1 ≠ F := by omega
        have aF : F ≠ h.next := by omega
        refine wp_seq (wp_r (by simp [j1, j6, j9, z1, stC, gB6, gB9, gBF, hk, hms']; rfl) ?_)
        refine wp_seq (wp_r (by simp [a9, gB9]; rfl) ?_)
        refine wp_ret ?_
        have fn := fB.next
        refine ⟨.inr rfl, [.int .i64 b'], rfl, by simp; omega, .inl (by simp; omega), fun h2 p q1 q2 q3 q4 => ?_⟩
        have fB0 : f' set = none := lB.none
        have hset' : ∀ j, j < h.next → (h'.set F (.map es')).get j = if j = F then some (.map es') else h'.get j := fun j hj => by rw [get_set]; simp [gBF]
        have k2 : ∀ j, j < h.next → j ≠ F → h2.get j = h'.get j := fun j hj hF => by rw [q3 j hj, hset' j hj, if_neg hF]
        refine ⟨b', fun t => if t = set then some b' else f' t, g', rfl, by simp, ?_, ?_, ?_, ?_⟩
        · intro u m hu
          have mono : ∀ u, f' u ≠ none → (fun t => if t = set then some b' else f' t) u = f' u := fun v hv => by
            have : v ≠ set := fun e => hv (by rw [e, fB0])
            simp [this]
          by_cases hus : u = set
          · subst hus
            simp only [if_true, Option.some.injEq] at hu
            subst hu
            refine ⟨lB.low, lB.high, lB.zero, fun c1 c2 => ?_⟩
            obtain ⟨k, c3, c4⟩ := lB.last c1 c2
            exact ⟨k, c3, c4.mono mono⟩
          · simp only [if_neg hus] at hu
            obtain ⟨c1, c2, c3, c4⟩ := gB u m hu
            refine ⟨c1, c2, c3, fun c5 c6 => ?_⟩
            obtain ⟨k, c7, c8⟩ := c4 c5 c6
            exact ⟨k, c7, c8.mono mono⟩
        · intro u
          constructor
          · intro hu
            have : u ≠ set := fun e => hu (by rw [e, hf])
            simp only [if_neg this]
            exact (xB u this).1 hu
          · intro hu
            have : u ≠ set := by omega
            simp only [if_neg this]
            exact (xB u this).2 hu
        · obtain ⟨esL, gBL, rBL⟩ := mB.mL
          exact ⟨by omega, by omega, by omega, by omega, by omega, (k2 _ l1 n1).trans mB.g1, (k2 _ l2 n3).trans mB.g2, (k2 _ l3 n5).trans mB.g3, ⟨es', by rw [q3 _ lF, hset' _ lF, if_pos rfl], rF'⟩, ⟨esL, (k2 _ lL hne.symm).trans gBL, rBL⟩, hne⟩
        · refine ⟨q1, fun j c1 c2 c3 => by rw [k2 j c1 c2, fB.get j c1 c2 c3, eA.get j c1], fun B c1 c2 c3 c4 => ?_⟩
          have := fB.low B (by omega) c2 c3 c4
          rcases q2 with q2 | q2
          · omega
          · have : (h'.set F (.map es')).low = min F h'.low := rfl
            omega
      by_cases hz : set = 0
      · have bz : ((set : Int) == 0) = true := by simp [hz]
        refine wp_seq (wp_seq (wp_r (by simp [bz]; rfl) ?_))
        refine wp_condT rfl (wp_r (by simp; rfl) ?_)
        exact rest 0 _ [] (fun _ => rfl) (fun e => absurd hz e) ⟨by simp; omega, fun j hj => by have : j ≠ h.next := (by omega); have : j ≠ h.next + 1 := (by omega); simp [*], fun B c1 c2 => by simp; omega⟩ (by simp) (by simp) (by simp) (by simp)
      · have bz : ((set : Int) == 0) = false := by simp [hz]
        refine wp_seq (wp_seq (wp_r (by simp [bz]; rfl) ?_))
        refine wp_condF rfl (wp_skip ?_)
        exact rest (-1) _ [(28, .bool false)] (fun e => absurd e hz) (fun _ => rfl) ⟨by simp; omega, fun j hj => by have : j ≠ h.next := (by omega); have : j ≠ h.next + 1 := (by omega); simp [*], fun B c1 c2 => by simp; omega⟩ (by simp) (by simp) (by simp) (by simp)
end Go.Vi.Tryd
