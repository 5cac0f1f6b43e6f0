/- Sets as numbers; spare's count and all. No statement of a claim stands here. -/
import Derived.Test.YtngcbeckobfaaaaDoorSb
set_option linter.unusedSimpArgs false
set_option linter.unusedVariables false
namespace Go.Vi.Tryd
open Go Go.Vi

theorem ar_and {a b : Nat} (ha : a < 2 ^ 62) (hb : b < 2 ^ 62) : arith .and (.int .i64 a) (.int .i64 b) = some (.int .i64 ((a &&& b : Nat) : Int)) := by
  have h1 : a &&& b ≤ a := Nat.and_le_left
  have e1 : BitVec.ofInt 64 (a : Int) = BitVec.ofNat 64 a := by simp
  have e2 : BitVec.ofInt 64 (b : Int) = BitVec.ofNat 64 b := by simp
  have : (BitVec.ofInt 64 (a : Int) &&& BitVec.ofInt 64 (b : Int)).toNat = a &&& b := by
    rw [e1, e2, BitVec.toNat_and, BitVec.toNat_ofNat, BitVec.toNat_ofNat, Nat.mod_eq_of_lt (by omega), Nat.mod_eq_of_lt (by omega)]
  show some (V.int .i64 (IntKind.wrap .i64 (((BitVec.ofInt 64 (a : Int) &&& BitVec.ofInt 64 (b : Int)).toNat : Nat) : Int))) = _
  rw [this, wrap64 (by omega) (by omega)]
/-- a set without some -/
def del (a b : Nat) : Nat := a ^^^ (a &&& b)
theorem testBit_del (a b i : Nat) : (del a b).testBit i = (a.testBit i && !b.testBit i) := by
  simp only [del, Nat.testBit_xor, Nat.testBit_and]
  cases a.testBit i <;> cases b.testBit i <;> rfl
theorem ar_andNot {a b : Nat} (ha : a < 2 ^ 62) (hb : b < 2 ^ 62) : arith .andNot (.int .i64 a) (.int .i64 b) = some (.int .i64 ((del a b : Nat) : Int)) := by
  have e1 : BitVec.ofInt 64 (a : Int) = BitVec.ofNat 64 a := by simp
  have e2 : BitVec.ofInt 64 (b : Int) = BitVec.ofNat 64 b := by simp
  have : (BitVec.ofInt 64 (a : Int) &&& ~~~BitVec.ofInt 64 (b : Int)).toNat = del a b := by
    rw [e1, e2]
    apply Nat.eq_of_testBit_eq
    intro i
    rw [testBit_del, BitVec.testBit_toNat, BitVec.getLsbD_and, BitVec.getLsbD_not]
    simp only [BitVec.getLsbD_ofNat]
    by_cases hi : i < 64
    · simp [hi]
    · have : a.testBit i = false := Nat.testBit_lt_two_pow (Nat.lt_of_lt_of_le ha (Nat.pow_le_pow_right (by omega) (by omega)))
      simp [hi, this]
  have h1 : del a b ≤ a := Nat.le_of_testBit fun i hi => by
    rw [testBit_del] at hi
    cases h : a.testBit i with
    | true => rfl
    | false => rw [h] at hi; simp at hi
  show some (V.int .i64 (IntKind.wrap .i64 (((BitVec.ofInt 64 (a : Int) &&& ~~~BitVec.ofInt 64 (b : Int)).toNat : Nat) : Int))) = _
  rw [this, wrap64 (by omega) (by omega)]
theorem ar_shr {a b : Nat} (hb : b ≤ 64) : arith .shr (.int .i64 a) (.int .i64 b) = some (.int .i64 ((a >>> b : Nat) : Int)) := by
  show (if (b : Int) < 0 then none else some (V.int .i64 ((a : Int).fdiv (2 ^ (min (b : Int).toNat 64))))) = _
  rw [if_neg (by omega), Int.toNat_natCast, Nat.min_eq_left hb, Nat.shiftRight_eq_div_pow]
  congr 2
  have : (2 ^ b : Int) = ((2 ^ b : Nat) : Int) := by simp
  rw [this]
  generalize (2 ^ b : Nat) = x
  rw [Int.fdiv_eq_ediv_of_nonneg _ (by omega)]
  rfl
theorem ar_shl {b : Nat} (hb : b ≤ 60) : arith .shl (.int .i64 1) (.int .i64 b) = some (.int .i64 ((2 ^ b : Nat) : Int)) := by
  show (if (b : Int) < 0 then none else some (V.int .i64 (IntKind.wrap .i64 (1 * 2 ^ (min (b : Int).toNat 64))))) = _
  rw [if_neg (by omega), Int.toNat_natCast, Nat.min_eq_left (by omega), Int.one_mul]
  have h1 : (2 ^ b : Int) = ((2 ^ b : Nat) : Int) := by simp
  have h2 : 2 ^ b ≤ 2 ^ 60 := Nat.pow_le_pow_right (by omega) hb
  rw [h1]
  generalize (2 ^ b : Nat) = x at h2
  rw [wrap64 (by omega) (by omega)]
theorem del_lt {a k : Nat} (h : a.testBit k = true) : del a (2 ^ k) < a := by
  have h1 : del a (2 ^ k) ≤ a := Nat.le_of_testBit fun i hi => by
    rw [testBit_del] at hi
    cases h : a.testBit i with
    | true => rfl
    | false => rw [h] at hi; simp at hi
  have h2 : del a (2 ^ k) ≠ a := fun e => by
    have := congrArg (·.testBit k) e
    simp only [testBit_del, Nat.testBit_two_pow_self, h] at this
    cases this
  omega
theorem bit_one (a k : Nat) : ((((a >>> k) &&& 1 : Nat) : Int) == 0) = !a.testBit k := by
  rw [Nat.testBit_eq_decide_div_mod_eq, Nat.and_one_is_mod, Nat.shiftRight_eq_div_pow]
  rcases Nat.mod_two_eq_zero_or_one (a / 2 ^ k) with h | h <;> simp [h]
/-- a set, moved down -/
def bitAt (a k : Nat) : Nat := a >>> k
theorem ar_shr' {a k : Nat} (hk : k ≤ 64) : arith .shr (.int .i64 a) (.int .i64 k) = some (.int .i64 (bitAt a k : Nat)) := ar_shr hk
theorem ar_bit {a : Nat} (k : Nat) (ha : a < 2 ^ 62) : arith .and (.int .i64 (bitAt a k : Nat)) (.int .i64 1) = some (.int .i64 (if a.testBit k then 1 else 0)) := by
  have h1 : bitAt a k ≤ a := by unfold bitAt; rw [Nat.shiftRight_eq_div_pow]; exact Nat.div_le_self _ _
  have h2 := ar_and (a := bitAt a k) (b := 1) (by omega) (by omega)
  rw [show ((1 : Nat) : Int) = 1 from rfl] at h2
  rw [h2, bitAt, Nat.testBit_eq_decide_div_mod_eq, Nat.and_one_is_mod, Nat.shiftRight_eq_div_pow]
  rcases Nat.mod_two_eq_zero_or_one (a / 2 ^ k) with h | h <;> simp [h]
theorem and_pred_lt {a : Nat} (h : 0 < a) : a &&& (a - 1) < a := by
  have : a &&& (a - 1) ≤ a - 1 := Nat.and_le_right
  omega
/-- how many members a set has -/
def cnt (a : Nat) : Nat := if h : 0 < a then cnt (a &&& (a - 1)) + 1 else 0
termination_by a
decreasing_by exact and_pred_lt h
theorem cnt_pos {a : Nat} (h : 0 < a) : cnt a = cnt (a &&& (a - 1)) + 1 := by rw [cnt, dif_pos h]
theorem cnt_zero : cnt 0 = 0 := by rw [cnt, dif_neg (by omega)]
theorem cnt_le : ∀ a, cnt a ≤ a := by
  intro a
  induction a using Nat.strongRecOn with
  | _ a ih =>
    by_cases h : 0 < a
    · rw [cnt_pos h]
      have := ih _ (and_pred_lt h)
      have := and_pred_lt h
      omega
    · have : a = 0 := by omega
      subst this; rw [cnt_zero]; omega

attribute [local simp] reg pre guarded isCall ev again Env.put alook bindArgs Opd.val ar_add ar_sub ar_mul ar_quo ar_rem ar_eql ar_neq ar_lss ar_leq ar_gtr ar_geq Env.mask List.filterMap ressOf resOf pack V.clasp sealL V.top topL get_new get_set next_new next_set low_new low_set low_mk next_mk get_mk vals sub V.isAgg V.cells V.cell1 setRange bnd ival bval fillIn minmax Nat.ne_of_lt ne2 ne3 ne4 ne5 ne6
theorem count_loop (B : Nat) : ∀ (a n : Nat) (h : H), a < 2 ^ 60 → n + cnt a < 2 ^ 60 → B ≤ h.low →
    WP globs prog none c31_l0 [(0, .int .i64 a), (3, .int .i64 n)] h fun x e' h' => x = .exit 0 ∧ alook 3 e' = some (.int .i64 ((n + cnt a : Nat) : Int)) ∧ B ≤ h'.low := by
  intro a
  induction a using Nat.strongRecOn with
  | _ a ih =>
    intro n h ha hn hB
    by_cases hp : 0 < a
    · have w1 : IntKind.wrap .i64 (n + 1 : Int) = ((n + 1 : Nat) : Int) := by rw [wrap64] <;> omega
      have w2 : IntKind.wrap .i64 (a - 1 : Int) = ((a - 1 : Nat) : Int) := by rw [wrap64] <;> omega
      refine wp_loop (wp_seq (wp_seq (wp_r (by simp [hp]; rfl) ?_)))
      refine wp_condT rfl (wp_skip ?_)
      refine wp_seq (wp_block (wp_r (by simp [w1, -Int.natCast_add]; rfl) ?_))
      have := ar_and (a := a) (b := a - 1) (by omega) (by omega)
      refine wp_r (by simp [w2, this]; rfl) ?_
      rw [cnt_pos hp] at hn
      rw [cnt_pos hp, show n + (cnt (a &&& (a - 1)) + 1) = n + 1 + cnt (a &&& (a - 1)) by omega]
      exact ih _ (and_pred_lt hp) (n + 1) h (by have := and_pred_lt hp; omega) (by omega) hB
    · have : a = 0 := by omega
      subst this
      refine wp_loop (wp_seq (wp_seq (wp_r (by simp; rfl) ?_)))
      refine wp_condF rfl (wp_exit ?_)
      simp [thenQ, cnt_zero, hB]
theorem count_run (a : Nat) (h : H) (ha : a < 2 ^ 50) : WC globs prog 31 [.int .i64 a] h fun v h' p => v = .int .i64 (cnt a) ∧ h' = h ∧ p = true := by
  refine wc_pure (fn := c31) rfl rfl ?_
  refine wp_seq (wp_r (by simp; rfl) ?_)
  refine wp_seq (wp_r (by simp; rfl) ?_)
  have := cnt_le a
  refine wp_seq (wp_block ((count_loop h.next a 0 _ (by omega) (by omega) (by simp)).mono ?_))
  rintro x e' h' ⟨rfl, h3, hB⟩
  rw [Nat.zero_add] at h3
  refine wp_seq (wp_r (by simp [h3]; rfl) ?_)
  refine wp_ret ?_
  simp [c31, hB]
theorem all_run (s : St) (h : H) (hs : s.ms.length ≤ 8) : WC globs prog 29 [s.v] h fun v h' p => v = .int .i64 ((2 ^ s.ms.length - 1 : Nat) : Int) ∧ h' = h ∧ p = true := by
  refine wc_pure (fn := c29) rfl rfl ?_
  refine wp_seq (wp_r (by simp [St.v]; rfl) ?_)
  have h1 := ar_shl (b := s.ms.length) (by omega)
  have h2 : 2 ^ s.ms.length ≤ 2 ^ 8 := Nat.pow_le_pow_right (by omega) hs
  have h3 : 0 < 2 ^ s.ms.length := Nat.two_pow_pos _
  have w : IntKind.wrap .i64 (((2 ^ s.ms.length : Nat) : Int) - 1) = ((2 ^ s.ms.length - 1 : Nat) : Int) := by
    generalize (2 ^ s.ms.length : Nat) = x at *
    rw [wrap64] <;> omega
  generalize (2 ^ s.ms.length : Nat) = x at *
  refine wp_seq (wp_r (by simp [h1, w]; rfl) ?_)
  refine wp_ret ?_
  simp [c29]
end Go.Vi.Tryd
