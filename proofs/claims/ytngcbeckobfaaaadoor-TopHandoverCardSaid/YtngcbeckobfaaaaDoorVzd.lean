/- What the plain run keeps of the plain heap. No statement of a claim stands here. -/
import Derived.Test.YtngcbeckobfaaaaDoorVzc
set_option linter.unusedSimpArgs false
set_option linter.unusedVariables false
namespace Go.Vi
open Go

structure Keeps (h h' : H) : Prop where
  next : h.next ≤ h'.next
  low : h'.low ≤ h.low
  get : ∀ i, i < h'.low → i < h.next → h'.get i = h.get i

theorem Keeps.refl (h : H) : Keeps h h := ⟨Nat.le_refl _, Nat.le_refl _, fun _ _ _ => rfl⟩
theorem Keeps.trans {a b c : H} (x : Keeps a b) (y : Keeps b c) : Keeps a c :=
  ⟨Nat.le_trans x.next y.next, Nat.le_trans y.low x.low, fun i h1 h2 => (y.get i h1 (Nat.lt_of_lt_of_le h2 x.next)).trans (x.get i (Nat.lt_of_lt_of_le h1 y.low) h2)⟩
theorem Keeps.new (h : H) (o : HObj) : Keeps h (h.new o) :=
  ⟨Nat.le_succ _, Nat.le_refl _, fun i _ h2 => by rw [H.get_new, if_neg (Nat.ne_of_lt h2)]⟩
theorem Keeps.set (h : H) (b : Nat) (o : HObj) : Keeps h (h.set b o) :=
  ⟨Nat.le_refl _, Nat.min_le_right _ _, fun i h1 _ => by
    have : i < b := Nat.lt_of_lt_of_le h1 (Nat.min_le_left _ _)
    rw [H.get_set, if_neg (Nat.ne_of_lt this)]⟩

theorem blt_true {a b : Nat} (h : Nat.blt a b = true) : a < b := by rw [Nat.blt_eq] at h; exact h
theorem blt_false {a b : Nat} (h : Nat.blt a b = false) : ¬ a < b := by
  intro h'; have : Nat.blt a b = true := by rw [Nat.blt_eq]; exact h'
  rw [this] at h; cases h
theorem alook_keepOld (base : Nat) (i : Nat) (hi : i < base) : ∀ (l : List (Nat × HObj)), alook i (keepOld base l) = alook i l
  | [] => rfl
  | (j, o) :: r => by
    have ih := alook_keepOld base i hi r
    simp only [keepOld]
    cases hj : Nat.blt j base with
    | true => simp only [alook_cons, ih]
    | false =>
      have := blt_false hj
      simp only [alook_cons, ih]
      rw [if_neg (by omega)]
theorem alook_keepOld_some (base : Nat) (i : Nat) {o : HObj} : ∀ (l : List (Nat × HObj)), alook i (keepOld base l) = some o → i < base ∧ alook i l = some o
  | [], h => by simp [keepOld, alook] at h
  | (j, p) :: r, h => by
    have ih := alook_keepOld_some base i (o := o) r
    simp only [keepOld] at h
    cases hj : Nat.blt j base with
    | true =>
      have hlt := blt_true hj
      rw [hj] at h
      simp only [alook_cons] at h ⊢
      by_cases e : j = i
      · rw [if_pos e] at h ⊢; exact ⟨e ▸ hlt, h⟩
      · rw [if_neg e] at h ⊢; exact ih h
    | false =>
      have hlt := blt_false hj
      rw [hj] at h
      obtain ⟨a, b⟩ := ih h
      rw [alook_cons, if_neg (by omega)]
      exact ⟨a, b⟩

section
variable {G : Globs} {e : Env} {h h' : H} {v : V}

theorem ev_heap {vo : VOp} (hv : ev G e h vo = some (v, h')) : h' = h ∨ (∃ o, h' = h.new o) ∨ ∃ b o, h' = h.set b o := by
  cases vo <;> simp only [ev, Option.bind_eq_bind, Option.bind_eq_some_iff, Option.some.injEq, Prod.mk.injEq, reduceCtorEq] at hv
  all_goals
    repeat' first
      | (exact .inl hv.2.symm)
      | (exact .inr (.inl ⟨_, hv.2.symm⟩))
      | (exact .inr (.inr ⟨_, _, hv.2.symm⟩))
      | (cases hv; done)
      | split at hv
      | (obtain ⟨_, hv⟩ := hv)
      | simp only [Option.bind_eq_bind, Option.bind_eq_some_iff, Option.some.injEq, Prod.mk.injEq, reduceCtorEq] at hv
  all_goals first
    | exact .inl rfl
    | exact .inr (.inl ⟨_, rfl⟩)
    | exact .inr (.inr ⟨_, _, rfl⟩)

theorem ev_keeps {vo : VOp} (hv : ev G e h vo = some (v, h')) : Keeps h h' := by
  rcases ev_heap hv with rfl | ⟨o, rfl⟩ | ⟨b, o, rfl⟩
  · exact .refl _
  · exact .new _ _
  · exact .set _ _ _

def KeepsT : Task → Res → Prop
  | .code _ _ _ h, .exit _ _ h' => Keeps h h'
  | .call _ _ h, .ret _ h' p => Keeps h h' ∧ (p = true → h' = h)
  | .yield _ _ h, .ret _ h' p => Keeps h h' ∧ p = false
  | _, _ => True

theorem leave_keeps {h1 : H} (K : Keeps { h with low := h.next } h1) : Keeps h (leave h v h1).2.1 := by
  have hk := K.get
  unfold leave
  split
  · split
    · exact .refl _
    · refine ⟨K.next, Nat.min_le_left _ _, fun i h1' h2 => ?_⟩
      have : i < h1.low := Nat.lt_of_lt_of_le h1' (Nat.min_le_right _ _)
      exact hk i this h2
  · refine ⟨K.next, Nat.min_le_left _ _, fun i h1' h2 => ?_⟩
    exact hk i (Nat.lt_of_lt_of_le h1' (Nat.min_le_right _ _)) h2

theorem leave_pure {h1 : H} : (leave h v h1).2.2 = true → (leave h v h1).2.1 = h := by
  unfold leave
  split
  · split
    · exact fun _ => rfl
    · intro h; cases h
  · intro h; cases h
variable {rec : Task → Option Res} (hrec : ∀ t r, rec t = some r → KeepsT t r)
include hrec
theorem callee_pure {f : V} {args : List V} (hc : callee rec f args h = some (v, h', true))   : h' = h := by
  unfold callee at hc
  split at hc
  · split at hc
    · rename_i hr; cases hc; exact (hrec _ _ hr).2 rfl
    · cases hc
  · split at hc
    · rename_i hr; cases hc; have := (hrec _ _ hr).2; cases this
    · cases hc
  · cases hc
theorem callee_keeps {f : V} {args : List V} {p : Bool} (hc : callee rec f args h = some (v, h', p)) : Keeps h h' := by
  unfold callee at hc
  split at hc
  · split at hc
    · rename_i hr; cases hc; exact (hrec _ _ hr).1
    · cases hc
  · split at hc
    · rename_i hr; cases hc; exact (hrec _ _ hr).1
    · cases hc
  · cases hc
theorem runOp_keeps {vo : VOp} (hv : runOp rec G e h vo = some (v, h')) : Keeps h h' := by
  unfold runOp at hv
  split at hv
  · simp only [Option.bind_eq_bind, Option.bind_eq_some_iff] at hv
    obtain ⟨f, _, as, _, r, hr, hv⟩ := hv
    obtain ⟨r1, r2, r3⟩ := r
    split at hv
    · cases hv
    · cases hv; exact callee_keeps hrec hr
  · exact ev_keeps hv
theorem runOps_keeps {all : List VO} : ∀ {os : List VO} {e e' : Env} {h h' : H}, runOps rec G all os e h = some (e', h') → Keeps h h'
  | [], e, e', h, h', hv => by simp only [runOps, Option.some.injEq, Prod.mk.injEq] at hv; obtain ⟨_, rfl⟩ := hv; exact .refl _
  | o :: os, e, e', h, h', hv => by
    simp only [runOps] at hv
    split at hv
    · cases hv
    · exact runOps_keeps hv
    · split at hv
      · cases hv
      · rename_i hr
        split at hv
        · exact (runOp_keeps hrec hr).trans (runOps_keeps hv)
        · cases hv

theorem step_keeps {P : Prog} {t : Task} {r : Res} (hs : step G P rec t = some r) : KeepsT t r := by
  cases t with
  | code ro c e h =>
    cases c with
    | skip => simp only [step, Option.some.injEq] at hs; subst hs; exact .refl _
    | ret => simp only [step, Option.some.injEq] at hs; subst hs; exact .refl _
    | exit id => simp only [step, Option.some.injEq] at hs; subst hs; exact .refl _
    | seq a b =>
      simp only [step] at hs
      split at hs
      · rename_i h1; have := hrec _ _ h1; have k2 := hrec _ _ hs
        cases r <;> first | trivial | exact Keeps.trans this k2
      · have := hrec _ _ hs; cases r <;> first | trivial | exact this
    | cond x a b =>
      simp only [step] at hs
      split at hs
      · have := hrec _ _ hs; cases r <;> first | trivial | exact this
      · have := hrec _ _ hs; cases r <;> first | trivial | exact this
      · cases hs
    | block id a =>
      simp only [step] at hs
      split at hs
      · rename_i h1; have := hrec _ _ h1
        split at hs <;> cases hs <;> exact this
      · have := hrec _ _ hs; cases r <;> first | trivial | exact this
    | loop live a =>
      simp only [step] at hs
      split at hs
      · rename_i h1; have := hrec _ _ h1; have k2 := hrec _ _ hs
        cases r <;> first | trivial | exact Keeps.trans this k2
      · have := hrec _ _ hs; cases r <;> first | trivial | exact this
    | region ops live =>
      simp only [step] at hs
      split at hs
      · rename_i h1; cases hs; exact runOps_keeps hrec h1
      · cases hs
    | rangeFunc f params assign body live =>
      simp only [step] at hs
      split at hs
      · split at hs
        · cases hs
        · split at hs
          · rename_i h1
            have k : Keeps _ _ := (hrec _ _ h1).1
            split at hs
            · split at hs
              · cases hs
              · split at hs <;> cases hs <;> exact ((Keeps.new _ _).trans k).trans (.set _ _ _)
            · cases hs
          · cases hs
      · cases hs
  | call f args h =>
    simp only [step] at hs
    split at hs
    · cases hs
    · split at hs
      · cases hs
      · split at hs
        · rename_i h1
          have k : Keeps _ _ := hrec _ _ h1
          split at hs
          · cases hs; exact ⟨leave_keeps k, leave_pure⟩
          · cases hs
        · rename_i h1
          have k : Keeps _ _ := hrec _ _ h1
          split at hs
          · cases hs; exact ⟨leave_keeps k, leave_pure⟩
          · cases hs
        · cases hs
  | yield l args h =>
    simp only [step] at hs
    split at hs
    · split at hs
      · cases hs
      · split at hs
        · rename_i h1
          have k : Keeps _ _ := hrec _ _ h1
          split at hs
          · split at hs
            · split at hs
              · rename_i h2
                have k2 : Keeps _ _ := hrec _ _ h2
                split at hs
                · cases hs; exact ⟨((k.trans (.set _ _ _)).trans k2).trans (.set _ _ _), rfl⟩
                · cases hs
              · cases hs
            · cases hs
          · cases hs
        · cases hs
    · cases hs
end

theorem eval_keeps {G : Globs} {P : Prog} : ∀ (n : Nat) (t : Task) (r : Res), eval G P n t = some r → KeepsT t r
  | 0, t, r, h => by cases h
  | n + 1, t, r, h => step_keeps (rec := eval G P n) (fun t r => eval_keeps n t r) h
end Go.Vi
