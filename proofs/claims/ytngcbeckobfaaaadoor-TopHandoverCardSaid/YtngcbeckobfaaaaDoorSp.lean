/- Plain law: the turns that spare takes are a plan. No program stands here but for the shapes of its values. -/
import Derived.Test.YtngcbeckobfaaaaDoorSg
set_option linter.unusedSimpArgs false
set_option linter.unusedVariables false
namespace Go.Vi.Tryd
open Go Go.Vi

def mAt (s : St) (k : Nat) : M := (s.ms[k]?).getD ⟨0, 0, 0, 0, 0⟩
theorem mAt_eq {s : St} {k : Nat} (h : k < s.ms.length) : mAt s k = s.ms[k] := by simp [mAt, h]

/-- machines one behind the other, and until when they go on -/
inductive Ch (s : St) : Nat → List Nat → Int → Prop
  | nil : Ch s 0 [] 0
  | snoc {set k : Nat} {l : List Nat} {n : Int} (hk : k < s.ms.length) (hb : set.testBit k = true) (h : Ch s (del set (2 ^ k)) l n) (h1 : (mAt s k).start + (mAt s k).warm ≤ n) (h2 : (mAt s k).stint s.gap ≠ 0) : Ch s set (l ++ [k]) (n + (mAt s k).stint s.gap)

theorem Ch.mem {s : St} {set : Nat} {l : List Nat} {n : Int} (h : Ch s set l n) : ∀ k ∈ l, k < s.ms.length ∧ set.testBit k = true := by
  induction h with
  | nil => intro k hk; cases hk
  | snoc hk hb h h1 h2 ih =>
    intro j hj
    rcases List.mem_append.1 hj with hj | hj
    · obtain ⟨c1, c2⟩ := ih j hj
      rw [testBit_del] at c2
      simp only [Bool.and_eq_true] at c2
      exact ⟨c1, c2.1⟩
    · rw [List.mem_singleton.1 hj]; exact ⟨hk, hb⟩
theorem Ch.nodup {s : St} {set : Nat} {l : List Nat} {n : Int} (h : Ch s set l n) : l.Nodup := by
  induction h with
  | nil => exact List.nodup_nil
  | snoc hk hb h h1 h2 ih =>
    rw [List.nodup_append]
    refine ⟨ih, by simp, fun a ha b hb' => ?_⟩
    rw [List.mem_singleton.1 hb']
    rintro rfl
    have := (h.mem a ha).2
    rw [testBit_del, Nat.testBit_two_pow_self] at this
    simp at this

/-- each machine can take over from the one before it; the last one goes on to the end -/
def Climb (s : St) (hours : Int) : List Nat → Int → Prop
  | [], _ => True
  | [k], o => k < s.ms.length ∧ (mAt s k).start + (mAt s k).warm ≤ o ∧ (mAt s k).last ≠ 0 ∧ hours ≤ o + (mAt s k).last
  | k :: r, o => k < s.ms.length ∧ (mAt s k).start + (mAt s k).warm ≤ o ∧ (mAt s k).stint s.gap ≠ 0 ∧ Climb s hours r (o + (mAt s k).stint s.gap)
theorem Climb.cons {s : St} {hours : Int} {k : Nat} {r : List Nat} {o : Int} (hr : r ≠ []) : Climb s hours (k :: r) o = (k < s.ms.length ∧ (mAt s k).start + (mAt s k).warm ≤ o ∧ (mAt s k).stint s.gap ≠ 0 ∧ Climb s hours r (o + (mAt s k).stint s.gap)) := by
  cases r with
  | nil => exact absurd rfl hr
  | cons _ _ => rfl
theorem Ch.climb {s : St} {hours : Int} {set : Nat} {l : List Nat} {n : Int} (h : Ch s set l n) : ∀ {rest : List Nat}, rest ≠ [] → Climb s hours rest n → Climb s hours (l ++ rest) 0 := by
  induction h with
  | nil => intro rest _ hc; exact hc
  | snoc hk hb h h1 h2 ih =>
    intro rest hr hc
    rw [List.append_assoc]
    refine ih (by simp) ?_
    show Climb s hours (_ :: rest) _
    rw [Climb.cons hr]
    exact ⟨hk, h1, h2, hc⟩

/-- the turns -/
def walk (s : St) (hours : Int) : List Nat → Int → List T
  | [], _ => []
  | k :: r, o => if hours ≤ o then [] else ⟨k, o - (mAt s k).warm, o⟩ :: walk s hours r (o + (mAt s k).stint s.gap)

structure WOk (s : St) (hours : Int) (l : List Nat) (ps : List T) (o : Int) (i : Nat) (t : T) : Prop where
  k : l[i]? = some t.k
  len : t.k < s.ms.length
  start : t.start = t.over - (mAt s t.k).warm
  from_ : (mAt s t.k).start + (mAt s t.k).warm ≤ t.over
  low : o ≤ t.over
  high : t.over < hours
  first : i = 0 → t.over = o
  climb : t.over < overAt hours ps i
  last : overAt hours ps i ≤ t.over + (mAt s t.k).last
  next : ∀ u, ps[i + 1]? = some u → u.over = t.over + (mAt s t.k).stint s.gap

theorem overAt_cons (hours : Int) (t : T) (ps : List T) (i : Nat) : overAt hours (t :: ps) (i + 1) = overAt hours ps i := by
  simp [overAt]
theorem walk_ok (s : St) (hours : Int) (hs : s.ok) : ∀ (l : List Nat) (o : Int), Climb s hours l o → ∀ i t, (walk s hours l o)[i]? = some t → WOk s hours l (walk s hours l o) o i t
  | [], o, hc, i, t, ht => by simp [walk] at ht
  | k :: r, o, hc, i, t, ht => by
    unfold walk at ht ⊢
    split at ht
    · simp at ht
    rename_i ho
    rw [if_neg ho]
    have hk : k < s.ms.length := by
      cases r with
      | nil => exact hc.1
      | cons _ _ => exact hc.1
    have hm := hs.2.2.2.2.2.2 s.ms[k] (List.getElem_mem _)
    rw [← mAt_eq hk] at hm
    have l1 := last_bd hm
    have l2 := stint_bd (g := s.gap) hm ⟨hs.2.2.1, hs.2.2.2.1⟩
    cases i with
    | zero =>
      simp only [List.getElem?_cons_zero, Option.some.injEq] at ht
      subst ht
      cases hr : r with
      | nil =>
        rw [hr] at hc
        obtain ⟨c1, c2, c3, c4⟩ := hc
        exact ⟨rfl, hk, rfl, c2, Int.le_refl _, (show o < hours by omega), fun _ => rfl, by dsimp only; simp [overAt, walk]; omega, by dsimp only; simp [overAt, walk]; omega, fun u hu => by simp [walk] at hu⟩
      | cons j q =>
        rw [hr, Climb.cons (by simp)] at hc
        obtain ⟨c1, c2, c3, c4⟩ := hc
        have hw : walk s hours (j :: q) (o + (mAt s k).stint s.gap) = if hours ≤ o + (mAt s k).stint s.gap then [] else ⟨j, o + (mAt s k).stint s.gap - (mAt s j).warm, o + (mAt s k).stint s.gap⟩ :: walk s hours q (o + (mAt s k).stint s.gap + (mAt s j).stint s.gap) := rfl
        refine ⟨rfl, hk, rfl, c2, Int.le_refl _, (show o < hours by omega), fun _ => rfl, ?_, ?_, ?_⟩
        · rw [hw]; dsimp only; split <;> simp [overAt] <;> omega
        · rw [hw]; dsimp only; split <;> simp [overAt] <;> omega
        · intro u hu
          rw [hw] at hu
          split at hu
          · simp at hu
          · simp at hu; rw [← hu]
    | succ i =>
      rw [List.getElem?_cons_succ] at ht
      have hr : r ≠ [] := by rintro rfl; simp [walk] at ht
      rw [Climb.cons hr] at hc
      obtain ⟨c1, c2, c3, c4⟩ := hc
      obtain ⟨w1, w2, w3, w4, w5, w6, w7, w8, w9, w10⟩ := walk_ok s hours hs r _ c4 i t ht
      refine ⟨by simpa using w1, w2, w3, w4, by omega, w6, fun h => (by cases h), ?_, ?_, ?_⟩
      · rw [overAt_cons]; exact w8
      · rw [overAt_cons]; exact w9
      · intro u hu; exact w10 u (by simpa using hu)

theorem drift_stint {m : M} {g : Int} (hm : m.ok) (hg : 0 ≤ g) : m.drift * m.stint g ≤ g := by
  obtain ⟨m1, m2, m3, m4, m5, m6, m7, m8, m9⟩ := hm
  unfold M.stint
  split
  · rename_i h; rw [h]; omega
  · rename_i h
    have h1 : g.tdiv m.drift = g / m.drift := Int.tdiv_eq_ediv_of_nonneg hg
    have h2 : m.drift * (g / m.drift) ≤ g := Int.mul_ediv_self_le h
    have h3 : min m.last (g.tdiv m.drift) ≤ g / m.drift := by omega
    have h4 := Int.mul_le_mul_of_nonneg_left h3 m8
    omega

theorem plan_ok (s : St) (hs : s.ok) (l : List Nat) (hl : l ≠ []) (hn : l.Nodup) (hc : Climb s s.hours l 0) : PlanOk s s.hours (walk s s.hours l 0) := by
  have hW := walk_ok s s.hours hs l 0 hc
  generalize hps : walk s s.hours l 0 = ps at hW
  have hh := hs.1
  have bd : ∀ (i : Nat) (t : T), ps[i]? = some t → t.ok := by
    intro i t ht
    obtain ⟨w1, w2, w3, w4, w5, w6, w7, w8, w9, w10⟩ := hW i t ht
    have hm := hs.2.2.2.2.2.2 s.ms[t.k] (List.getElem_mem _)
    rw [← mAt_eq w2] at hm
    obtain ⟨m1, m2, m3, m4, m5, m6, m7, m8, m9⟩ := hm
    have := hs.2.1
    exact ⟨by omega, by omega, by omega, by omega⟩
  refine ⟨?_, ?_, ?_⟩
  · cases l with
    | nil => exact absurd rfl hl
    | cons k r =>
      rw [← hps]; unfold walk
      rw [if_neg (by omega)]; simp
  · intro t ht
    obtain ⟨i, hi⟩ := List.getElem?_of_mem ht
    exact bd i t hi
  · intro i t ht
    have W := hW i t ht
    obtain ⟨w1, w2, w3, w4, w5, w6, w7, w8, w9, w10⟩ := W
    refine ⟨w2, ?_, w7, ?_, w8, ?_⟩
    · intro j u hj hu e
      have v1 := (hW j u hu).k
      rw [e] at v1
      obtain ⟨hi', hi2⟩ := List.getElem?_eq_some_iff.1 w1
      obtain ⟨hj', hj2⟩ := List.getElem?_eq_some_iff.1 v1
      exact List.pairwise_iff_getElem.1 hn j i hj' hi' hj (hj2.trans hi2.symm)
    · intro h
      rw [mAt_eq w2] at w3 w4 w9
      have hm := hs.2.2.2.2.2.2 s.ms[t.k] (List.getElem_mem _)
      have l1 := last_bd hm
      refine ⟨by omega, by omega, ?_⟩
      obtain ⟨m1, m2, m3, m4, m5, m6, m7, m8, m9⟩ := hm
      unfold M.last at *
      omega
    · intro j u hu hk hj hju
      subst hj
      obtain ⟨v1, v2, v3, v4, v5, v6, v7, v8, v9, v10⟩ := hW j u hju
      have := v10 t ht
      rw [mAt_eq v2] at v3 this
      rw [mAt_eq w2] at w3
      have hmu := hs.2.2.2.2.2.2 s.ms[u.k] (List.getElem_mem _)
      have d := drift_stint (g := s.gap) hmu hs.2.2.1
      unfold offF
      rw [show t.over - u.start - s.ms[u.k].warm = s.ms[u.k].stint s.gap by omega, show t.over - t.start - s.ms[t.k].warm = 0 by omega]
      omega
end Go.Vi.Tryd
