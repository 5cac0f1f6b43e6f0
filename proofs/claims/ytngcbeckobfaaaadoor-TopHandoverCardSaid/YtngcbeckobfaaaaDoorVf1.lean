/- For regions that draw their order: what a run passes through; operations read their own temporaries alone. No statement of a claim stands here. -/
import Derived.Test.YtngcbeckobfaaaaDoorVzf
set_option linter.unusedSimpArgs false
set_option linter.unusedVariables false
namespace Go.Vi
open Go

mutual
theorem V.same_eq : ∀ {a b : V}, V.same a b = true → a = b
  | .undef, .undef, _ => rfl
  | .bool a, .bool b, h => by simp only [V.same, beq_iff_eq] at h; rw [h]
  | .int j a, .int k b, h => by simp only [V.same, Bool.and_eq_true, beq_iff_eq] at h; rw [h.1, h.2]
  | .ptr a o, .ptr b p, h => by simp only [V.same, Bool.and_eq_true, Nat.beq_eq] at h; rw [h.1, h.2]
  | .vptr a, .vptr b, h => by simp only [V.same] at h; rw [V.same_eq h]
  | .nilp, .nilp, _ => rfl
  | .slice k a s, .slice l b t, h => by simp only [V.same, Bool.and_eq_true, Nat.beq_eq, decide_eq_true_eq] at h; rw [h.1.1, sameL_eq h.1.2, h.2]
  | .hs a o, .hs b p, h => by simp only [V.same, Bool.and_eq_true, Nat.beq_eq] at h; rw [h.1, h.2]
  | .rs a o l, .rs b p m, h => by simp only [V.same, Bool.and_eq_true, Nat.beq_eq] at h; rw [h.1.1, h.1.2, h.2]
  | .map a, .map b, h => by simp only [V.same, Nat.beq_eq] at h; rw [h]
  | .nilm, .nilm, _ => rfl
  | .func f a c, .func g b d, h => by simp only [V.same, Bool.and_eq_true, Nat.beq_eq] at h; rw [h.1.1, sameL_eq h.1.2, sameL_eq h.2]
  | .yield a, .yield b, h => by simp only [V.same, Nat.beq_eq] at h; rw [h]
  | .nilf, .nilf, _ => rfl
  | .agg a, .agg b, h => by simp only [V.same] at h; rw [sameL_eq h]
  | .tuple a, .tuple b, h => by simp only [V.same] at h; rw [sameL_eq h]
  | .undef, .bool _, h | .undef, .int _ _, h | .undef, .ptr _ _, h | .undef, .vptr _, h | .undef, .nilp, h | .undef, .slice _ _ _, h | .undef, .hs _ _, h | .undef, .rs _ _ _, h | .undef, .map _, h | .undef, .nilm, h | .undef, .func _ _ _, h | .undef, .yield _, h | .undef, .nilf, h | .undef, .agg _, h | .undef, .tuple _, h => by simp [V.same] at h
  | .bool _, .undef, h | .bool _, .int _ _, h | .bool _, .ptr _ _, h | .bool _, .vptr _, h | .bool _, .nilp, h | .bool _, .slice _ _ _, h | .bool _, .hs _ _, h | .bool _, .rs _ _ _, h | .bool _, .map _, h | .bool _, .nilm, h | .bool _, .func _ _ _, h | .bool _, .yield _, h | .bool _, .nilf, h | .bool _, .agg _, h | .bool _, .tuple _, h => by simp [V.same] at h
  | .int _ _, .undef, h | .int _ _, .bool _, h | .int _ _, .ptr _ _, h | .int _ _, .vptr _, h | .int _ _, .nilp, h | .int _ _, .slice _ _ _, h | .int _ _, .hs _ _, h | .int _ _, .rs _ _ _, h | .int _ _, .map _, h | .int _ _, .nilm, h | .int _ _, .func _ _ _, h | .int _ _, .yield _, h | .int _ _, .nilf, h | .int _ _, .agg _, h | .int _ _, .tuple _, h => by simp [V.same] at h
  | .ptr _ _, .undef, h | .ptr _ _, .bool _, h | .ptr _ _, .int _ _, h | .ptr _ _, .vptr _, h | .ptr _ _, .nilp, h | .ptr _ _, .slice _ _ _, h | .ptr _ _, .hs _ _, h | .ptr _ _, .rs _ _ _, h | .ptr _ _, .map _, h | .ptr _ _, .nilm, h | .ptr _ _, .func _ _ _, h | .ptr _ _, .yield _, h | .ptr _ _, .nilf, h | .ptr _ _, .agg _, h | .ptr _ _, .tuple _, h => by simp [V.same] at h
  | .vptr _, .undef, h | .vptr _, .bool _, h | .vptr _, .int _ _, h | .vptr _, .ptr _ _, h | .vptr _, .nilp, h | .vptr _, .slice _ _ _, h | .vptr _, .hs _ _, h | .vptr _, .rs _ _ _, h | .vptr _, .map _, h | .vptr _, .nilm, h | .vptr _, .func _ _ _, h | .vptr _, .yield _, h | .vptr _, .nilf, h | .vptr _, .agg _, h | .vptr _, .tuple _, h => by simp [V.same] at h
  | .nilp, .undef, h | .nilp, .bool _, h | .nilp, .int _ _, h | .nilp, .ptr _ _, h | .nilp, .vptr _, h | .nilp, .slice _ _ _, h | .nilp, .hs _ _, h | .nilp, .rs _ _ _, h | .nilp, .map _, h | .nilp, .nilm, h | .nilp, .func _ _ _, h | .nilp, .yield _, h | .nilp, .nilf, h | .nilp, .agg _, h | .nilp, .tuple _, h => by simp [V.same] at h
  | .slice _ _ _, .undef, h | .slice _ _ _, .bool _, h | .slice _ _ _, .int _ _, h | .slice _ _ _, .ptr _ _, h | .slice _ _ _, .vptr _, h | .slice _ _ _, .nilp, h | .slice _ _ _, .hs _ _, h | .slice _ _ _, .rs _ _ _, h | .slice _ _ _, .map _, h | .slice _ _ _, .nilm, h | .slice _ _ _, .func _ _ _, h | .slice _ _ _, .yield _, h | .slice _ _ _, .nilf, h | .slice _ _ _, .agg _, h | .slice _ _ _, .tuple _, h => by simp [V.same] at h
  | .hs _ _, .undef, h | .hs _ _, .bool _, h | .hs _ _, .int _ _, h | .hs _ _, .ptr _ _, h | .hs _ _, .vptr _, h | .hs _ _, .nilp, h | .hs _ _, .slice _ _ _, h | .hs _ _, .rs _ _ _, h | .hs _ _, .map _, h | .hs _ _, .nilm, h | .hs _ _, .func _ _ _, h | .hs _ _, .yield _, h | .hs _ _, .nilf, h | .hs _ _, .agg _, h | .hs _ _, .tuple _, h => by simp [V.same] at h
  | .rs _ _ _, .undef, h | .rs _ _ _, .bool _, h | .rs _ _ _, .int _ _, h | .rs _ _ _, .ptr _ _, h | .rs _ _ _, .vptr _, h | .rs _ _ _, .nilp, h | .rs _ _ _, .slice _ _ _, h | .rs _ _ _, .hs _ _, h | .rs _ _ _, .map _, h | .rs _ _ _, .nilm, h | .rs _ _ _, .func _ _ _, h | .rs _ _ _, .yield _, h | .rs _ _ _, .nilf, h | .rs _ _ _, .agg _, h | .rs _ _ _, .tuple _, h => by simp [V.same] at h
  | .map _, .undef, h | .map _, .bool _, h | .map _, .int _ _, h | .map _, .ptr _ _, h | .map _, .vptr _, h | .map _, .nilp, h | .map _, .slice _ _ _, h | .map _, .hs _ _, h | .map _, .rs _ _ _, h | .map _, .nilm, h | .map _, .func _ _ _, h | .map _, .yield _, h | .map _, .nilf, h | .map _, .agg _, h | .map _, .tuple _, h => by simp [V.same] at h
  | .nilm, .undef, h | .nilm, .bool _, h | .nilm, .int _ _, h | .nilm, .ptr _ _, h | .nilm, .vptr _, h | .nilm, .nilp, h | .nilm, .slice _ _ _, h | .nilm, .hs _ _, h | .nilm, .rs _ _ _, h | .nilm, .map _, h | .nilm, .func _ _ _, h | .nilm, .yield _, h | .nilm, .nilf, h | .nilm, .agg _, h | .nilm, .tuple _, h => by simp [V.same] at h
  | .func _ _ _, .undef, h | .func _ _ _, .bool _, h | .func _ _ _, .int _ _, h | .func _ _ _, .ptr _ _, h | .func _ _ _, .vptr _, h | .func _ _ _, .nilp, h | .func _ _ _, .slice _ _ _, h | .func _ _ _, .hs _ _, h | .func _ _ _, .rs _ _ _, h | .func _ _ _, .map _, h | .func _ _ _, .nilm, h | .func _ _ _, .yield _, h | .func _ _ _, .nilf, h | .func _ _ _, .agg _, h | .func _ _ _, .tuple _, h => by simp [V.same] at h
  | .yield _, .undef, h | .yield _, .bool _, h | .yield _, .int _ _, h | .yield _, .ptr _ _, h | .yield _, .vptr _, h | .yield _, .nilp, h | .yield _, .slice _ _ _, h | .yield _, .hs _ _, h | .yield _, .rs _ _ _, h | .yield _, .map _, h | .yield _, .nilm, h | .yield _, .func _ _ _, h | .yield _, .nilf, h | .yield _, .agg _, h | .yield _, .tuple _, h => by simp [V.same] at h
  | .nilf, .undef, h | .nilf, .bool _, h | .nilf, .int _ _, h | .nilf, .ptr _ _, h | .nilf, .vptr _, h | .nilf, .nilp, h | .nilf, .slice _ _ _, h | .nilf, .hs _ _, h | .nilf, .rs _ _ _, h | .nilf, .map _, h | .nilf, .nilm, h | .nilf, .func _ _ _, h | .nilf, .yield _, h | .nilf, .agg _, h | .nilf, .tuple _, h => by simp [V.same] at h
  | .agg _, .undef, h | .agg _, .bool _, h | .agg _, .int _ _, h | .agg _, .ptr _ _, h | .agg _, .vptr _, h | .agg _, .nilp, h | .agg _, .slice _ _ _, h | .agg _, .hs _ _, h | .agg _, .rs _ _ _, h | .agg _, .map _, h | .agg _, .nilm, h | .agg _, .func _ _ _, h | .agg _, .yield _, h | .agg _, .nilf, h | .agg _, .tuple _, h => by simp [V.same] at h
  | .tuple _, .undef, h | .tuple _, .bool _, h | .tuple _, .int _ _, h | .tuple _, .ptr _ _, h | .tuple _, .vptr _, h | .tuple _, .nilp, h | .tuple _, .slice _ _ _, h | .tuple _, .hs _ _, h | .tuple _, .rs _ _ _, h | .tuple _, .map _, h | .tuple _, .nilm, h | .tuple _, .func _ _ _, h | .tuple _, .yield _, h | .tuple _, .nilf, h | .tuple _, .agg _, h => by simp [V.same] at h
theorem sameL_eq : ∀ {a b : List V}, sameL a b = true → a = b
  | [], [], _ => rfl
  | a :: as, b :: bs, h => by simp only [sameL, Bool.and_eq_true] at h; rw [V.same_eq h.1, sameL_eq h.2]
  | [], _ :: _, h | _ :: _, [], h => by simp [sameL] at h
end

/-! ### an operation reads its own temporaries alone -/
section
variable {G : Globs} {e e' : Env} {h h' : H} {v : V}
def Agree (ts : List Nat) (e e' : Env) : Prop := ∀ t ∈ ts, alook t e = alook t e'
theorem Agree.left {a b : List Nat} (h : Agree (a ++ b) e e') : Agree a e e' := fun t ht => h t (List.mem_append_left _ ht)
theorem Agree.right {a b : List Nat} (h : Agree (a ++ b) e e') : Agree b e e' := fun t ht => h t (List.mem_append_right _ ht)
theorem val_congr {x : Opd} (h : Agree x.tmps e e') : x.val G e = x.val G e' := by
  cases x with
  | tmp t => exact h t (by simp [Opd.tmps])
  | const v => rfl
  | glob g => rfl
theorem vals_congr : ∀ {xs : List Opd}, Agree (opdsTmps xs) e e' → vals G e xs = vals G e' xs
  | [], _ => rfl
  | x :: xs, h => by simp only [opdsTmps] at h; simp only [vals, val_congr h.left, vals_congr h.right]
theorem fillIn_congr : ∀ {ps : List (Nat × Nat × Opd)} {z : List V}, Agree (partsTmps ps) e e' → fillIn G e z ps = fillIn G e' z ps
  | [], z, _ => rfl
  | (o, n, x) :: ps, z, h => by
    simp only [partsTmps] at h
    simp only [fillIn, val_congr h.left, fun z => fillIn_congr (z := z) h.right]
theorem bnd_congr {d : Int} {x : Option Opd} (h : Agree (optTmps x) e e') : bnd G e d x = bnd G e' d x := by
  cases x with
  | none => rfl
  | some x => simp only [bnd, val_congr (x := x) h]
theorem ev_congr {vo : VOp} (hA : Agree vo.tmps e e') : ev G e h vo = ev G e' h vo := by
  cases vo <;> simp only [VOp.tmps] at hA <;> simp only [ev]
  case move => rw [val_congr hA]
  case pick => rw [val_congr hA.left, val_congr hA.right.left, val_congr hA.right.right]
  case box => rw [val_congr hA]
  case build => rw [fillIn_congr hA]
  case mkslice => rw [vals_congr hA]
  case load => rw [val_congr hA]
  case store => rw [val_congr hA.left, val_congr hA.right]
  case bin => rw [val_congr hA.left, val_congr hA.right]
  case eql => rw [val_congr hA.left, val_congr hA.right]
  case isnil => rw [val_congr hA]
  case not => rw [val_congr hA]
  case neg => rw [val_congr hA]
  case mkfunc => rw [vals_congr hA.left, vals_congr hA.right]
  case slc k x lo hi mx =>
    rw [val_congr hA.left]
    have h1 := fun d => bnd_congr (G := G) (d := d) hA.right.left
    have h2 := fun d => bnd_congr (G := G) (d := d) hA.right.right.left
    have h3 := fun d => bnd_congr (G := G) (d := d) hA.right.right.right
    simp only [h1, h2]
    cases mx with
    | none => rfl
    | some y => simp only [h3]
  case fieldAddr => rw [val_congr hA]
  case field => rw [val_congr hA]
  case idxAddr => rw [val_congr hA.left, val_congr hA.right]
  case idx => rw [val_congr hA.left, val_congr hA.right]
  case lookup => rw [val_congr hA.left, val_congr hA.right]
  case mapset => rw [val_congr hA.left, val_congr hA.right.left, val_congr hA.right.right]
  case extract => rw [val_congr hA]
  case append => rw [val_congr hA.left, val_congr hA.right]
  case len => rw [val_congr hA]
  case mlen => rw [val_congr hA]
  case min => rw [vals_congr hA]
  case max => rw [vals_congr hA]
  case mkarr => rw [val_congr hA]
  case freeze => rw [val_congr hA]
  case slca n k x hi =>
    rw [val_congr hA.left]
    cases hi with
    | none => rfl
    | some y =>
      have hy := val_congr (G := G) (x := y) (show Agree y.tmps e e' from hA.right)
      simp only [hy]
  case mkcap => rw [val_congr hA.left, val_congr hA.right]
theorem runOp_congr {rec : Task → Option Res} {vo : VOp} (hA : Agree vo.tmps e e') : runOp rec G e h vo = runOp rec G e' h vo := by
  unfold runOp
  cases vo <;> first | exact ev_congr hA | skip
  simp only [VOp.tmps] at hA
  simp only [val_congr hA.left, vals_congr hA.right]
theorem guarded_congr {g : Option (Nat × Bool)} (hA : Agree (match g with | some (t, _) => [t] | none => []) e e') : guarded e g = guarded e' g := by
  cases g with
  | none => rfl
  | some tb => obtain ⟨t, b⟩ := tb; simp only [guarded]; rw [hA t (by simp)]
theorem agree_mask {live : List Nat} : Agree live (Env.mask live e) e := by
  have : ∀ (l : List Nat) (t : Nat), t ∈ l → alook t (Env.mask l e) = alook t e := by
    intro l
    induction l with
    | nil => intro t ht; cases ht
    | cons x l ih =>
      intro t ht
      simp only [Env.mask, List.filterMap_cons]
      cases hx : alook x e with
      | none =>
        by_cases e' : x = t
        · subst e'
          rw [hx]
          by_cases hm : x ∈ l
          · exact (ih x hm).trans hx
          · show alook x (Env.mask l e) = none
            cases hq : alook x (Env.mask l e) with
            | none => rfl
            | some v => rw [alook_mask l hq] at hx; cases hx
        · exact ih t (by rcases List.mem_cons.1 ht with h | h; exact absurd h.symm e'; exact h)
      | some u =>
        simp only [Option.map_some, alook_cons]
        by_cases e' : x = t
        · subst e'; rw [if_pos rfl, hx]
        · rw [if_neg e']; exact ih t (by rcases List.mem_cons.1 ht with h | h; exact absurd h.symm e'; exact h)
  exact fun t ht => this live t ht

theorem ev_map {vo : VOp} (hk : kindOf vo = 0) (h2 : H) : ev G e h2 vo = (ev G e h vo).map (fun p => (p.1, h2)) := by
  cases vo <;> simp [kindOf] at hk <;> simp only [ev, Option.bind_eq_bind, Option.map_bind, Function.comp_def]
  all_goals first
    | rfl
    | (repeat' first
        | rfl
        | (refine Option.bind_congr fun _ _ => ?_)
        | (simp only [Option.map_bind, Function.comp_def]; done)
        | split
        | (rw [Option.map_bind]; refine Option.bind_congr fun _ _ => ?_))
  all_goals simp only [Function.comp_def, Option.map_bind]
  all_goals (repeat' first
    | rfl
    | (refine Option.bind_congr fun _ _ => ?_)
    | (simp [*]; done)
    | split)
/-- the heap is not looked at -/
theorem ev_plain {vo : VOp} (hk : kindOf vo = 0) (hv : ev G e h vo = some (v, h')) : h' = h ∧ ∀ h2, ev G e h2 vo = some (v, h2) := by
  refine ⟨?_, fun h2 => by rw [ev_map (h := h) hk, hv]; rfl⟩
  have := ev_map (G := G) (e := e) (h := h) hk h
  rw [hv] at this
  simpa using this
theorem ev_read {vo : VOp} (hk : kindOf vo = 1) (hv : ev G e h vo = some (v, h')) : h' = h := by
  cases vo <;> (try simp [kindOf] at hk) <;> simp only [ev, Option.bind_eq_bind, Option.bind_eq_some_iff, Option.some.injEq, Prod.mk.injEq, reduceCtorEq] at hv
  all_goals
    repeat' first
      | (exact hv.2.symm)
      | (cases hv; done)
      | split at hv
      | (obtain ⟨_, hv⟩ := hv)
      | simp only [Option.bind_eq_bind, Option.bind_eq_some_iff, Option.some.injEq, Prod.mk.injEq, reduceCtorEq] at hv
  all_goals first
    | rfl
    | (simp [kindOf] at hk)
theorem append_get {k : Nat} {x y : Opd} {u : V} {h2 : H} (ha : ev G e h (.append k x y) = some (u, h2)) : ∀ b o, h2.get b = some o → (∀ k u, o ≠ .tip k u) → h.get b = some o := by
  intro b o hb hno
  simp only [ev, Option.bind_eq_bind, Option.bind_eq_some_iff] at ha
  obtain ⟨xv, _, yv, _, ha⟩ := ha
  split at ha
  · split at ha
    · split at ha
      · simp only [Option.some.injEq, Prod.mk.injEq] at ha; rw [ha.2]; exact hb
      · split at ha
        · split at ha
          · cases ha
          · split at ha
            · split at ha
              · simp only [Option.some.injEq, Prod.mk.injEq] at ha
                rw [← ha.2, H.get_set] at hb
                split at hb
                · rename_i hg _ _
                  rw [hg] at hb
                  simp only [Option.map_some, Option.some.injEq] at hb
                  exact absurd hb.symm (hno _ _)
                · exact hb
              · cases ha
            · cases ha
          · simp only [Option.some.injEq, Prod.mk.injEq] at ha
            rw [← ha.2, H.get_new] at hb
            split at hb
            · simp only [Option.some.injEq] at hb; exact absurd hb.symm (hno _ _)
            · exact hb
        · cases ha
    · cases ha
  · cases ha
/-- what is read behind an append could be read ahead of it -/
theorem read_back {vo : VOp} {h2 : H} (hg : ∀ b o, h2.get b = some o → (∀ k u, o ≠ .tip k u) → h.get b = some o) (hk : kindOf vo = 1) (hv : ev G e h2 vo = some (v, h2)) : ev G e h vo = some (v, h) := by
  cases vo <;> (try simp [kindOf] at hk)
  case load s x =>
    simp only [ev, Option.bind_eq_bind, Option.bind_eq_some_iff] at hv ⊢
    obtain ⟨u, hu, hv⟩ := hv
    refine ⟨u, hu, ?_⟩
    split at hv
    · rename_i b o
      split at hv
      · rename_i cs hb
        simp only [hg b _ hb (by simp)]
        simp only [Option.bind_eq_some_iff, Option.some.injEq, Prod.mk.injEq, and_true] at hv ⊢
        exact hv
      · cases hv
    · split at hv
      · cases hv
      · rename_i hna
        simp only [Option.some.injEq, Prod.mk.injEq, and_true] at hv
        subst hv
        simp
      · split at hv
        · rename_i hl
          simp only [Option.some.injEq, Prod.mk.injEq, and_true] at hv
          simp [hl, hv]
        · cases hv
      · cases hv
    · cases hv
  case call => simp [ev] at hv
  case lookup ag ks z ok m k =>
    simp only [ev] at hv ⊢
    split at hv
    · rename_i kv mv hkv hmv
      split at hv
      · rename_i hok
        split at hv
        · rename_i es hes
          have hes' : mapOf h mv = some es := by
            cases mv <;> simp only [mapOf] at hes ⊢ <;> try exact hes
            split at hes
            · rename_i b es' hb
              rw [hg _ _ hb (by simp)]; exact hes
            · cases hes
          split at hv
          · rename_i r hr
            simp only [Option.some.injEq, Prod.mk.injEq, and_true] at hv
            rw [hes']
            show (match mlook kv es with | some r => some (lookRes z ok r, h) | none => none) = some (v, h)
            rw [hr, ← hv]
          · cases hv
        · cases hv
      · cases hv
    · cases hv
  case mlen x =>
    simp only [ev, Option.bind_eq_bind, Option.bind_eq_some_iff] at hv ⊢
    obtain ⟨u, hu, hv⟩ := hv
    refine ⟨u, hu, ?_⟩
    split at hv
    · simp only [Option.some.injEq, Prod.mk.injEq, and_true] at hv ⊢; exact hv
    · split at hv
      · rename_i b es hb
        simp only [hg _ _ hb (by simp)]
        simp only [Option.some.injEq, Prod.mk.injEq, and_true] at hv ⊢; exact hv
      · cases hv
    · cases hv
end
end Go.Vi
/- Regions that draw their order: what is surely ahead of what; the states that the plain run passes through. No statement of a claim stands here. -/
namespace Go.Vi
open Go

/-! ### what is surely ahead of what -/
def Good (M : List Nat) (os : List Oper) : Prop := M.length = os.length ∧ ∀ i o m, os[i]? = some o → M[i]? = some m → ∀ j, m.testBit j = true →
  ∃ e ∈ o.after.toList, Region.binds .any e = true ∧ (e.on = j ∨ ∃ me, M[e.on]? = some me ∧ e.on < i ∧ me.testBit j = true)

theorem edgeMask_bit {acc : List Nat} {j : Nat} : ∀ {es : List Edge}, (edgeMask acc es).testBit j = true → ∃ e ∈ es, Region.binds .any e = true ∧ (e.on = j ∨ ∃ me, acc[e.on]? = some me ∧ me.testBit j = true)
  | [], h => by simp [edgeMask] at h
  | e :: es, h => by
    simp only [edgeMask] at h
    split at h
    · rename_i hb
      simp only [Nat.testBit_or, Bool.or_eq_true] at h
      rcases h with h | h | h
      · obtain ⟨e', h1, h2⟩ := edgeMask_bit h; exact ⟨e', List.mem_cons_of_mem _ h1, h2⟩
      · rw [Nat.testBit_two_pow] at h
        exact ⟨e, List.mem_cons_self .., hb, .inl (by simpa using h)⟩
      · rw [List.getD_eq_getElem?_getD] at h
        cases hq : acc[e.on]? with
        | none => rw [hq] at h; simp at h
        | some me => rw [hq] at h; exact ⟨e, List.mem_cons_self .., hb, .inr ⟨me, hq, h⟩⟩
    · obtain ⟨e', h1, h2⟩ := edgeMask_bit h; exact ⟨e', List.mem_cons_of_mem _ h1, h2⟩

theorem maskGo_good : ∀ (os : List Oper) {pre : List Oper} {acc : List Nat}, Good acc pre → Good (maskGo os acc) (pre ++ os)
  | [], pre, acc, h => by simpa [maskGo] using h
  | o :: os, pre, acc, h => by
    have h1 : Good (acc ++ [edgeMask acc o.after.toList]) (pre ++ [o]) := by
      refine ⟨by simp [h.1], fun i x m hx hm j hj => ?_⟩
      rcases Nat.lt_or_ge i pre.length with hlt | hge
      · rw [List.getElem?_append_left hlt] at hx
        rw [List.getElem?_append_left (by rw [h.1]; exact hlt)] at hm
        obtain ⟨e, h2, h3, h4⟩ := h.2 i x m hx hm j hj
        refine ⟨e, h2, h3, h4.imp id fun ⟨me, h5, h6, h7⟩ => ⟨me, ?_, h6, h7⟩⟩
        rw [List.getElem?_append_left (List.getElem?_eq_some_iff.1 h5).1]; exact h5
      · have hi : i = pre.length := by
          have := (List.getElem?_eq_some_iff.1 hx).1
          simp at this; omega
        subst hi
        rw [List.getElem?_append_right (Nat.le_refl _)] at hx
        rw [List.getElem?_append_right (by rw [h.1]; exact Nat.le_refl _)] at hm
        simp only [Nat.sub_self, h.1, List.getElem?_cons_zero, Option.some.injEq] at hx hm
        subst hx; subst hm
        obtain ⟨e, h2, h3, h4⟩ := edgeMask_bit hj
        refine ⟨e, h2, h3, h4.imp id fun ⟨me, h5, h6⟩ => ⟨me, ?_, ?_, h6⟩⟩
        · rw [List.getElem?_append_left (List.getElem?_eq_some_iff.1 h5).1]; exact h5
        · rw [← h.1]; exact (List.getElem?_eq_some_iff.1 h5).1
    have := maskGo_good os h1
    simpa [maskGo] using this
theorem good_nil : Good [] [] := ⟨rfl, by simp⟩

/-- whatever holds every operation's forerunners holds all that are surely ahead -/
theorem Good.closed {M : List Nat} {os : List Oper} (g : Good M os) {L : Nat → Prop} (hL : ∀ i o, L i → os[i]? = some o → ∀ e ∈ o.after.toList, Region.binds .any e = true → L e.on) :
    ∀ (i : Nat) (m : Nat), (∀ o, os[i]? = some o → ∀ e ∈ o.after.toList, Region.binds .any e = true → L e.on) → M[i]? = some m → ∀ j, m.testBit j = true → L j := by
  intro i
  induction i using Nat.strongRecOn with
  | _ i ih =>
    intro m hi hm j hj
    obtain ⟨o, ho⟩ : ∃ o, os[i]? = some o := by
      have := (List.getElem?_eq_some_iff.1 hm).1
      exact ⟨os[i]'(by rw [← g.1]; exact this), by simp⟩
    obtain ⟨e, h1, h2, h3⟩ := g.2 i o m ho hm j hj
    rcases h3 with rfl | ⟨me, h4, h5, h6⟩
    · exact hi o ho e h1 h2
    · have hLe := hi o ho e h1 h2
      exact ih e.on h5 me (fun o' ho' => hL e.on o' hLe ho') h4 j h6
theorem edgesOk_get : ∀ {os : List Oper} {k i : Nat} {o : Oper}, edgesOk k os = true → os[i]? = some o → ∀ e ∈ o.after.toList, Region.binds .any e = true → e.on < k + i
  | [], k, i, o, _, h => by simp at h
  | x :: os, k, i, o, hc, h => by
    simp only [edgesOk, Bool.and_eq_true, List.all_eq_true] at hc
    cases i with
    | zero =>
      simp only [List.getElem?_cons_zero, Option.some.injEq] at h
      subst h
      intro e he hb
      have := hc.1 e he
      rw [hb] at this
      exact blt_true (by simpa using this)
    | succ i =>
      intro e he hb
      have := edgesOk_get hc.2 (by simpa using h) e he hb
      omega
theorem Good.lt {M : List Nat} {os : List Oper} (g : Good M os) (hc : edgesOk 0 os = true) {i m j : Nat} (hm : M[i]? = some m) (hj : m.testBit j = true) : j < i := by
  induction i using Nat.strongRecOn generalizing m with
  | _ i ih =>
    obtain ⟨o, ho⟩ : ∃ o, os[i]? = some o := by
      have := (List.getElem?_eq_some_iff.1 hm).1
      exact ⟨os[i]'(by rw [← g.1]; exact this), by simp⟩
    obtain ⟨e, h1, h2, h3⟩ := g.2 i o m ho hm j hj
    have := edgesOk_get hc ho e h1 h2
    rcases h3 with rfl | ⟨me, h4, h5, h6⟩
    · omega
    · exact Nat.lt_trans (ih e.on h5 h4 h6) h5

/-! ### what a run passes through -/
section
variable {rec : Task → Option Res} {G : Globs} {all : List VO}
structure Trace (rec : Task → Option Res) (G : Globs) (all vs : List VO) (e : Env) (h : H) (e' : Env) (h' : H) (st : Nat → Env × H) (val : Nat → V) : Prop where
  first : st 0 = (e, h)
  last : st vs.length = (e', h')
  step : ∀ i o, vs[i]? = some o → (st (i + 1)).1 = (st i).1.put o.dst (val i) ∧ ∃ b, guarded (st i).1 o.guard = some b ∧
    (b = false → val i = .tuple [] ∧ (st (i + 1)).2 = (st i).2) ∧
    (b = true → runOp rec G (st i).1 (st i).2 o.op = some (val i, (st (i + 1)).2) ∧ again G (st i).1 (st (i + 1)).2 all o.re = true)

theorem trace_exists : ∀ (vs : List VO) {e e' : Env} {h h' : H}, runOps rec G all vs e h = some (e', h') → ∃ st val, Trace rec G all vs e h e' h' st val
  | [], e, e', h, h', hv => by
    simp only [runOps, Option.some.injEq, Prod.mk.injEq] at hv
    obtain ⟨rfl, rfl⟩ := hv
    exact ⟨fun _ => (e, h), fun _ => .undef, rfl, rfl, by simp⟩
  | o :: vs, e, e', h, h', hv => by
    have go : ∀ (v : V) (h1 : H) (b : Bool), guarded e o.guard = some b → (b = false → v = .tuple [] ∧ h1 = h) → (b = true → runOp rec G e h o.op = some (v, h1) ∧ again G e h1 all o.re = true) →
        runOps rec G all vs (e.put o.dst v) h1 = some (e', h') → ∃ st val, Trace rec G all (o :: vs) e h e' h' st val := by
      intro v h1 b hb h0 h1' hr
      obtain ⟨st, val, T⟩ := trace_exists vs hr
      refine ⟨fun | 0 => (e, h) | k + 1 => st k, fun | 0 => v | k + 1 => val k, rfl, T.last, ?_⟩
      intro i x hx
      cases i with
      | zero =>
        simp only [List.getElem?_cons_zero, Option.some.injEq] at hx
        subst hx
        refine ⟨by simp [T.first], b, hb, fun hf => ⟨(h0 hf).1, by simp [T.first, (h0 hf).2]⟩, fun ht => ?_⟩
        simp only [T.first]
        exact h1' ht
      | succ i => exact T.step i x (by simpa using hx)
    simp only [runOps] at hv
    split at hv
    · cases hv
    · rename_i hb
      exact go (.tuple []) h false hb (fun _ => ⟨rfl, rfl⟩) (fun h => by cases h) hv
    · rename_i hb
      split at hv
      · cases hv
      · rename_i v h1 hr
        split at hv
        · rename_i ha
          exact go v h1 true hb (fun h => by cases h) (fun _ => ⟨hr, ha⟩) hv
        · cases hv

def dstOf (vs : List VO) (i : Nat) : Option Nat := (vs[i]?).bind VO.dst
def kdOf (vs : List VO) (i : Nat) : Nat := match vs[i]? with | some o => kindOf o.op | none => 0

variable {vs : List VO} {e e' : Env} {h h' : H} {st : Nat → Env × H} {val : Nat → V}
theorem Trace.before (T : Trace rec G all vs e h e' h' st val) {t : Nat} : ∀ {q : Nat}, q ≤ vs.length → (∀ j, j < q → dstOf vs j ≠ some t) → alook t (st q).1 = alook t e
  | 0, _, _ => by rw [T.first]
  | q + 1, hq, hj => by
    obtain ⟨o, ho⟩ : ∃ o, vs[q]? = some o := ⟨vs[q]'(by omega), by simp⟩
    rw [(T.step q o ho).1]
    have hd : o.dst ≠ some t := by have := hj q (by omega); simpa [dstOf, ho] using this
    have ih := T.before (t := t) (q := q) (by omega) (fun j h => hj j (by omega))
    cases hdd : o.dst with
    | none => simpa [Env.put, hdd] using ih
    | some d =>
      simp only [Env.put, alook_cons]
      rw [if_neg (fun e => hd (by rw [hdd, e]))]; exact ih
theorem Trace.at (T : Trace rec G all vs e h e' h' st val) {t j : Nat} (hjt : dstOf vs j = some t) (hun : ∀ k, dstOf vs k = some t → k = j) : ∀ {q : Nat}, q ≤ vs.length → j < q → alook t (st q).1 = some (val j)
  | 0, _, h => by omega
  | q + 1, hq, hlt => by
    obtain ⟨o, ho⟩ : ∃ o, vs[q]? = some o := ⟨vs[q]'(by omega), by simp⟩
    rw [(T.step q o ho).1]
    by_cases e : j = q
    · subst e
      have : o.dst = some t := by simpa [dstOf, ho] using hjt
      simp [Env.put, this, alook_cons]
    · have ih := T.at hjt hun (q := q) (by omega) (by omega)
      cases hdd : o.dst with
      | none => simpa [Env.put, hdd] using ih
      | some d =>
        have : d ≠ t := fun hd => e (hun q (by simp [dstOf, ho, hdd, hd])).symm
        simp only [Env.put, alook_cons]
        rw [if_neg this]; exact ih
/-- an operation that is no effect leaves the heap -/
theorem Trace.same (T : Trace rec G all vs e h e' h' st val) {i : Nat} (hi : i < vs.length) (hk : kdOf vs i = 0 ∨ kdOf vs i = 1) : (st (i + 1)).2 = (st i).2 := by
  obtain ⟨o, ho⟩ : ∃ o, vs[i]? = some o := ⟨vs[i]'hi, by simp⟩
  obtain ⟨_, b, _, h0, h1⟩ := T.step i o ho
  simp only [kdOf, ho] at hk
  cases b with
  | false => exact (h0 rfl).2
  | true =>
    have hr := (h1 rfl).1
    have hr' : ev G (st i).1 (st i).2 o.op = some (val i, (st (i + 1)).2) := by
      unfold runOp at hr
      split at hr
      · rename_i p f as _; cases p <;> simp [*, kindOf] at hk
      · exact hr
    rcases hk with hk | hk
    · exact (ev_plain hk hr').1
    · exact ev_read hk hr'
end
end Go.Vi
/- Regions that draw their order: what the test gives; a framed block becomes an object. No statement of a claim stands here. -/
namespace Go.Vi
open Go

theorem all2_get {α β : Type} {f : α → β → Bool} : ∀ {xs : List α} {ys : List β}, all2 f xs ys = true → xs.length = ys.length ∧ ∀ (i : Nat) (x : α) (y : β), xs[i]? = some x → ys[i]? = some y → f x y = true
  | [], [], _ => ⟨rfl, by simp⟩
  | x :: xs, y :: ys, h => by
    simp only [all2, Bool.and_eq_true] at h
    obtain ⟨h1, h2⟩ := all2_get h.2
    refine ⟨by simp [h1], fun i a b ha hb => ?_⟩
    cases i with
    | zero => simp only [List.getElem?_cons_zero, Option.some.injEq] at ha hb; subst ha; subst hb; exact h.1
    | succ i => exact h2 i a b (by simpa using ha) (by simpa using hb)
  | [], _ :: _, h => by simp [all2] at h
  | _ :: _, [], h => by simp [all2] at h
theorem imp_true {a b : Bool} (h : imp a b = true) (ha : a = true) : b = true := by subst ha; exact h
theorem and2 {a b : Bool} (h : a = true) (g : b = true) : (a && b) = true := by rw [h, g]; rfl
theorem and3 {a b c : Bool} (h : a = true) (g : b = true) (k : c = true) : (a && b && c) = true := by rw [h, g, k]; rfl
theorem elemB_of {t : Nat} : ∀ {l : List Nat}, t ∈ l → elemB t l = true
  | [], h => by cases h
  | x :: xs, h => by
    simp only [elemB, Bool.or_eq_true, Nat.beq_eq]
    rcases List.mem_cons.1 h with rfl | h
    · exact .inl rfl
    · exact .inr (elemB_of h)
theorem of_elemB {t : Nat} : ∀ {l : List Nat}, elemB t l = true → t ∈ l
  | [], h => by cases h
  | x :: xs, h => by
    simp only [elemB, Bool.or_eq_true, Nat.beq_eq] at h
    rcases h with rfl | h
    · exact List.mem_cons_self ..
    · exact List.mem_cons_of_mem _ (of_elemB h)

def tmOf (vs : List VO) (i : Nat) : List Nat := match vs[i]? with | some o => o.tmps | none => []
def reOf (vs : List VO) (i : Nat) : List Nat := match vs[i]? with | some o => o.re | none => []
def Bf (ops : Array Oper) (i j : Nat) : Prop := ∃ m, (maskGo ops.toList [])[i]? = some m ∧ m.testBit j = true

structure Facts (P : Program) (nt : Nat) (ops : Array Oper) (vs : List VO) : Prop where
  len : ops.size = vs.length
  ok : ∀ (i : Nat) (o : Oper) (v : VO), ops[i]? = some o → vs[i]? = some v → operOk P nt ops o v = true
  closed : ∀ {L : Nat → Prop}, (∀ (i : Nat) (o : Oper), L i → ops[i]? = some o → ∀ e ∈ o.after.toList, Region.binds .any e = true → L e.on) →
    ∀ (i : Nat), (∀ (o : Oper), ops[i]? = some o → ∀ e ∈ o.after.toList, Region.binds .any e = true → L e.on) → ∀ j, Bf ops i j → L j
  edge : ∀ (i : Nat) (o : Oper), ops[i]? = some o → ∀ e ∈ o.after.toList, Region.binds .any e = true → e.on < i
  lt : ∀ i j, Bf ops i j → j < i
  dst : ∀ i j t, dstOf vs i = some t → dstOf vs j = some t → i = j
  read : ∀ i j t, i < vs.length → dstOf vs j = some t → t ∈ tmOf vs i → j = i ∨ Bf ops i j ∨ Bf ops j i
  read1 : ∀ i j t, kdOf vs i = 1 → dstOf vs j = some t → t ∈ tmOf vs i → Bf ops i j
  E : ∀ i j, isE (kdOf vs i) = true → isEA (kdOf vs j) = true → j < i → Bf ops i j
  R1 : ∀ i j, kdOf vs i = 1 → isEA (kdOf vs j) = true → j < i → Bf ops i j ∨ kdOf vs j = 2 ∨ kdOf vs j = 5
  R2 : ∀ i j, kdOf vs i = 1 → isEA (kdOf vs j) = true → i < j → Bf ops j i ∨ kdOf vs j = 2 ∨ i ∈ reOf vs j
  A1 : ∀ i j k t, i < vs.length → kdOf vs j = 4 → dstOf vs j = some t → t ∈ tmOf vs i → isEA (kdOf vs k) = true → k < j → Bf ops i k
  A2 : ∀ i j k, kdOf vs j = 4 → kdOf vs i = 1 → j < i → isEA (kdOf vs k) = true → k < j → Bf ops i k
  A0 : ∀ (j : Nat) (o : VO), kdOf vs j = 4 → vs[j]? = some o → o.guard = none ∧ ∃ t, o.dst = some t

theorem kd_lt {vs : List VO} {i : Nat} (h : kdOf vs i ≠ 0) : ∃ o, vs[i]? = some o ∧ kindOf o.op = kdOf vs i := by
  unfold kdOf at h ⊢
  split at h
  · rename_i o ho; exact ⟨o, ho, by simp⟩
  · exact absurd rfl h
theorem dst_get {vs : List VO} {i t : Nat} (h : dstOf vs i = some t) : ∃ o, vs[i]? = some o ∧ o.dst = some t := by
  unfold dstOf at h
  cases hq : vs[i]? with
  | none => rw [hq] at h; cases h
  | some o => rw [hq] at h; exact ⟨o, rfl, h⟩
theorem isEA_ne {k : Nat} (h : isEA k = true) : k ≠ 0 := by rintro rfl; cases h
theorem isE_ne {k : Nat} (h : isE k = true) : k ≠ 0 := by rintro rfl; cases h

theorem draw_facts {P : Program} {nt : Nat} {ops : Array Oper} {vs : List VO} (h : drawOk P nt ops vs = true) : Facts P nt ops vs := by
  unfold drawOk at h
  simp only [Bool.and_eq_true] at h
  obtain ⟨⟨h1, h2⟩, h3, h4⟩ := h
  obtain ⟨hlen, hok⟩ := all2_get h1
  have g : Good (maskGo ops.toList []) ops.toList := by simpa using maskGo_good ops.toList good_nil
  have hM : (maskGo ops.toList []).length = vs.length := by rw [g.1, hlen]
  -- rows
  have row : ∀ (i : Nat) (o : VO), vs[i]? = some o → ∃ m, (maskGo ops.toList [])[i]? = some m ∧ ((o, m), i) ∈ rowsOf ops vs := by
    intro i o ho
    have hi : i < vs.length := (List.getElem?_eq_some_iff.1 ho).1
    refine ⟨(maskGo ops.toList [])[i]'(by rw [hM]; exact hi), by simp, ?_⟩
    unfold rowsOf
    rw [List.mk_mem_zipIdx_iff_getElem?]
    rw [List.getElem?_zip_eq_some]
    exact ⟨ho, by simp⟩
  have pair : ∀ (i j : Nat) (oi oj : VO), vs[i]? = some oi → vs[j]? = some oj → ∃ mi mj, (maskGo ops.toList [])[i]? = some mi ∧ (maskGo ops.toList [])[j]? = some mj ∧ pairOk (rowsOf ops vs) ((oi, mi), i) ((oj, mj), j) = true := by
    intro i j oi oj hi hj
    obtain ⟨mi, a1, a2⟩ := row i oi hi
    obtain ⟨mj, b1, b2⟩ := row j oj hj
    exact ⟨mi, mj, a1, b1, List.all_eq_true.1 (List.all_eq_true.1 h4 _ a2) _ b2⟩
  have big : ∀ (i j : Nat) (oi oj : VO) (mi : Nat), vs[i]? = some oi → vs[j]? = some oj → (maskGo ops.toList [])[i]? = some mi → ∀ (k : Nat) (ok : VO), vs[k]? = some ok →
      (rowsOf ops vs).all (fun z => imp (isEA (kindOf z.1.1.op) && Nat.blt z.2 j) (Nat.testBit mi z.2)) = true → isEA (kindOf ok.op) = true → k < j → Bf ops i k := by
    intro i j oi oj mi hi hj hmi k ok hk hall hE hlt
    obtain ⟨mk, c1, c2⟩ := row k ok hk
    have := imp_true (List.all_eq_true.1 hall _ c2) (by simp only [hE, Bool.true_and]; rw [Nat.blt_eq]; exact hlt)
    exact ⟨mi, hmi, this⟩
  have blt : ∀ {a b : Nat}, a < b → Nat.blt a b = true := fun h => by rw [Nat.blt_eq]; exact h
  have tm_get : ∀ (i : Nat) (o : VO), vs[i]? = some o → tmOf vs i = o.tmps := fun i o ho => by simp [tmOf, ho]
  have reads : ∀ {i j : Nat} {oi oj : VO} {mi mj t : Nat}, oj.dst = some t → t ∈ oi.tmps → readsOf ((oi, mi), i) ((oj, mj), j) = true := by
    intro i j oi oj mi mj t hd ht; simp only [readsOf, hd]; exact elemB_of ht
  refine ⟨by simpa using hlen, fun i o v ho hv => hok i o v (by simpa using ho) hv, ?_, ?_, ?_, ?_, ?_, ?_, ?_, ?_, ?_, ?_, ?_, ?_⟩
  · intro L hL i hi j ⟨m, hm, hj⟩
    exact g.closed (L := L) (fun i o hl ho => hL i o hl (by simpa using ho)) i m (fun o ho => hi o (by simpa using ho)) hm j hj
  · intro i o ho e he hb
    have := edgesOk_get h2 (i := i) (o := o) (by simpa using ho) e he hb
    omega
  · rintro i j ⟨m, hm, hj⟩; exact g.lt h2 hm hj
  · intro i j t hi hj
    obtain ⟨oi, a1, a2⟩ := dst_get hi
    obtain ⟨oj, b1, b2⟩ := dst_get hj
    obtain ⟨mi, mj, _, _, hp⟩ := pair i j oi oj a1 b1
    simp only [pairOk, Bool.and_eq_true, Bool.or_eq_true, Nat.beq_eq] at hp
    rcases hp.1.1.1.1.1 with e | e
    · exact e
    · have := e.1; simp only [apartB, a2, b2] at this; simp at this
  · intro i j t hi hj ht
    obtain ⟨oj, b1, b2⟩ := dst_get hj
    have a1 : vs[i]? = some vs[i] := by simp [hi]
    obtain ⟨mi, mj, c1, c2, hp⟩ := pair i j _ oj a1 b1
    simp only [pairOk, Bool.and_eq_true, Bool.or_eq_true, Nat.beq_eq] at hp
    rw [tm_get i _ a1] at ht
    rcases hp.1.1.1.1.1 with e | e
    · exact .inl e.symm
    · rcases Bool.or_eq_true _ _ ▸ imp_true e.2 (reads b2 ht) with x | x
      · exact .inr (.inl ⟨mi, c1, x⟩)
      · exact .inr (.inr ⟨mj, c2, x⟩)
  · intro i j t hk hj ht
    obtain ⟨oj, b1, b2⟩ := dst_get hj
    obtain ⟨oi, a1, a2⟩ := kd_lt (by rw [hk]; simp)
    obtain ⟨mi, mj, c1, c2, hp⟩ := pair i j _ oj a1 b1
    simp only [pairOk, Bool.and_eq_true] at hp
    rw [tm_get i _ a1] at ht
    exact ⟨mi, c1, imp_true hp.1.1.1.1.2 (by rw [reads b2 ht, a2, hk]; rfl)⟩
  · intro i j hE hA hlt
    obtain ⟨oi, a1, a2⟩ := kd_lt (isE_ne hE)
    obtain ⟨oj, b1, b2⟩ := kd_lt (isEA_ne hA)
    obtain ⟨mi, mj, c1, c2, hp⟩ := pair i j _ oj a1 b1
    simp only [pairOk, Bool.and_eq_true] at hp
    exact ⟨mi, c1, imp_true hp.1.1.1.2 (and3 (by rw [a2]; exact hE) (by rw [b2]; exact hA) (blt hlt))⟩
  · intro i j hk hA hlt
    obtain ⟨oi, a1, a2⟩ := kd_lt (i := i) (by rw [hk]; simp)
    obtain ⟨oj, b1, b2⟩ := kd_lt (isEA_ne hA)
    obtain ⟨mi, mj, c1, c2, hp⟩ := pair i j _ oj a1 b1
    simp only [pairOk, Bool.and_eq_true] at hp
    have := imp_true hp.1.1.2 (and3 (by rw [a2, hk]; rfl) (by rw [b2]; exact hA) (blt hlt))
    simp only [Bool.or_eq_true, Nat.beq_eq] at this
    rcases this with (x | x) | x
    · exact .inl ⟨mi, c1, x⟩
    · exact .inr (.inl (b2 ▸ x))
    · exact .inr (.inr (b2 ▸ x))
  · intro i j hk hA hlt
    obtain ⟨oi, a1, a2⟩ := kd_lt (i := i) (by rw [hk]; simp)
    obtain ⟨oj, b1, b2⟩ := kd_lt (isEA_ne hA)
    obtain ⟨mi, mj, c1, c2, hp⟩ := pair i j _ oj a1 b1
    simp only [pairOk, Bool.and_eq_true] at hp
    have := imp_true hp.1.2 (and3 (by rw [a2, hk]; rfl) (by rw [b2]; exact hA) (blt hlt))
    simp only [Bool.or_eq_true, Nat.beq_eq] at this
    rcases this with (x | x) | x
    · exact .inl ⟨mj, c2, x⟩
    · exact .inr (.inl (b2 ▸ x))
    · exact .inr (.inr (by simp only [reOf, b1]; exact of_elemB x))
  · intro i j k t hi hk hj ht hA hlt
    obtain ⟨oj, b1, b2⟩ := dst_get hj
    have a1 : vs[i]? = some vs[i] := by simp [hi]
    obtain ⟨ok, d1, d2⟩ := kd_lt (isEA_ne hA)
    obtain ⟨mi, mj, c1, c2, hp⟩ := pair i j _ oj a1 b1
    simp only [pairOk, Bool.and_eq_true] at hp
    rw [tm_get i _ a1] at ht
    have hkj : kindOf oj.op = 4 := by have := hk; simpa [kdOf, b1] using this
    have := imp_true hp.2 (and2 (by rw [hkj]; rfl) (by rw [reads b2 ht]; rfl))
    exact big i j _ oj mi a1 b1 c1 k ok d1 this (by rw [d2]; exact hA) hlt
  · intro i j k hj hk hji hA hlt
    obtain ⟨oi, a1, a2⟩ := kd_lt (i := i) (by rw [hk]; simp)
    obtain ⟨oj, b1, b2⟩ := kd_lt (i := j) (by rw [hj]; simp)
    obtain ⟨ok, d1, d2⟩ := kd_lt (isEA_ne hA)
    obtain ⟨mi, mj, c1, c2, hp⟩ := pair i j _ oj a1 b1
    simp only [pairOk, Bool.and_eq_true] at hp
    have := imp_true hp.2 (and2 (by rw [b2, hj]; rfl) (by rw [a2, hk, show Nat.blt j i = true from blt hji]; simp))
    exact big i j oi oj mi a1 b1 c1 k ok d1 this (by rw [d2]; exact hA) hlt
  · intro j o hk ho
    obtain ⟨m, _, hr⟩ := row j o ho
    have := List.all_eq_true.1 h3 _ hr
    have hko : kindOf o.op = 4 := by simpa [kdOf, ho] using hk
    have := imp_true this (by simp only [hko]; rfl)
    simp only [Bool.and_eq_true, Option.isNone_iff_eq_none, Option.isSome_iff_exists] at this
    exact this

section
variable {chk : Nat → Code → VCode → Bool} {w : World} {κ : K} {h : H}
/-- a framed block becomes an object -/
theorem Rel.adopt (R : Rel chk κ h w) {B : Nat} {xs : List Value} {ty : TypeId} {z : List V} (hU : κ.U B) (hBb : κ.base ≤ B) (hB : w.heap[B]? = some (.cells ⟨xs⟩ ty (0, 0))) (hz : ∀ κ', VRL w κ' z xs) :
    Ext (κ.cut κ.n (fun b => κ.U b ∧ b ≠ B)) w ((κ.cut κ.n (fun b => κ.U b ∧ b ≠ B)).place B) w ∧ Rel chk ((κ.cut κ.n (fun b => κ.U b ∧ b ≠ B)).place B) (h.new (.cells z)) w := by
  have R1 : Rel chk (κ.cut κ.n (fun b => κ.U b ∧ b ≠ B)) h w := R.cut (fun _ hb => hb.1) (fun b hb => ⟨R.bu b hb, fun e => by subst e; exact absurd hb (Nat.not_lt.2 hBb)⟩) R.n (fun i o hg => ⟨hg, by rw [R.n]; exact (R.obj i o hg).1, by rw [R.n]; exact R.below hg⟩)
  generalize hκ : κ.cut κ.n (fun b => κ.U b ∧ b ≠ B) = κ1 at R1 ⊢
  have hn1 : κ1.n = κ.n := by rw [← hκ]; rfl
  have hhome : ∀ i o, home κ1 i o = home κ i o := fun i o => by rw [← hκ]; exact home_cut
  have hU1 : ¬ κ1.U B := by rw [← hκ]; exact fun hb => hb.2 rfl
  have hS1 : ∀ off, ¬ κ1.S B off := by rw [← hκ]; exact fun off hs => absurd (R.us B off hU hs) (Nat.not_lt.2 hBb)
  have X : Ext κ1 w (κ1.place B) w := ⟨Nat.le_succ _, fun i hi => by simp [K.place, Nat.ne_of_lt hi], fun _ _ => .inl rfl, fun B off hs => ⟨hs, rfl⟩, fun b hb => ⟨hb, rfl⟩, Nat.le_refl _, rfl, rfl, rfl⟩
  refine ⟨X, R1.frame X (by simp [K.place, R1.n]) (Nat.le_succ _) (some h.next) ?_ ?_ ?_ (fun B off hs => .inl hs) (fun b hu => hu)⟩
  · intro i hi; rw [H.get_new, if_neg (fun e => hi (by rw [e]))]
  · intro i q hi hg; exact ⟨rfl, fun ho => rfl⟩
  · intro i q hi hg
    cases hi
    rw [H.get_new, if_pos rfl] at hg
    cases hg
    have hmu : (κ1.place B).mu h.next = B := by simp [K.place, R1.n]
    refine ⟨Nat.lt_succ_self _, ⟨xs, ty, by rw [hmu]; exact hB, hz _⟩, fun _ => ⟨?_, ?_⟩, ?_⟩
    · intro i' o' hne hg' ho'
      show home κ1 i' o' ≠ (κ1.place B).mu h.next
      rw [hmu, hhome]
      exact fun e => R.udis i' o' hg' ho' (e ▸ hU)
    · show ¬ κ1.U ((κ1.place B).mu h.next); rw [hmu]; exact hU1
    · intro B' off hs hf
      have : B' = (κ1.place B).mu h.next := hf
      rw [hmu] at this; subst this
      exact hS1 off hs
end
end Go.Vi
/- Regions that draw their order: whatever order comes up, the machine comes to what the plain run says. No statement of a claim stands here. -/
namespace Go.Vi
open Go

abbrev Lst (listed : Array Bool) (i : Nat) : Prop := listed.getD i false = true

theorem ready_mem {ops : Array Oper} {listed : Array Bool} (hs : listed.size = ops.size) {i : Nat} : i ∈ Region.ready .any ops listed ↔ i < ops.size ∧ ¬ Lst listed i ∧
    ∀ o, ops[i]? = some o → ∀ e ∈ o.after.toList, Region.binds .any e = true → Lst listed e.on := by
  unfold Region.ready Lst
  simp only [List.mem_filter, List.mem_range, Bool.and_eq_true, Bool.not_eq_true']
  constructor
  · rintro ⟨h1, h2, h3⟩
    refine ⟨h1, ?_, fun o ho e he hb => ?_⟩
    · simp only [Array.getD_eq_getD_getElem?] at h2 ⊢
      rw [Array.getElem?_eq_getElem (by omega)] at h2 ⊢
      simp at h2 ⊢; exact h2
    · rw [ho] at h3
      simp only [Option.map_some, Option.getD_some] at h3
      rw [← Array.all_toList, List.all_eq_true] at h3
      have := h3 e he
      rw [hb] at this
      simpa using this
  · rintro ⟨h1, h2, h3⟩
    refine ⟨h1, ?_, ?_⟩
    · simp only [Array.getD_eq_getD_getElem?] at h2 ⊢
      rw [Array.getElem?_eq_getElem (by omega)] at h2 ⊢
      simp at h2 ⊢; exact h2
    · have ho : ops[i]? = some ops[i] := by simp [h1]
      rw [ho]
      simp only [Option.map_some, Option.getD_some]
      rw [← Array.all_toList, List.all_eq_true]
      intro e he
      cases hb : Region.binds .any e with
      | false => rfl
      | true => simpa using h3 _ ho e he hb
theorem lst_set {listed : Array Bool} {i k : Nat} (hi : i < listed.size) : Lst (listed.setIfInBounds i true) k ↔ k = i ∨ Lst listed k := by
  unfold Lst
  simp only [Array.getD_eq_getD_getElem?]
  by_cases e : k = i
  · subst e; simp [hi]
  · rw [Array.getElem?_setIfInBounds_ne (fun h => e h.symm)]; simp [e]
theorem lst_lt {listed : Array Bool} {i : Nat} (h : Lst listed i) : i < listed.size := by
  unfold Lst at h
  rw [Array.getD_eq_getD_getElem?] at h
  rcases Nat.lt_or_ge i listed.size with x | x
  · exact x
  · rw [Array.getElem?_eq_none x] at h; simp at h

theorem count_less {p q : Nat → Bool} (hpq : ∀ x, q x = true → p x = true) : ∀ {l : List Nat} {x : Nat}, x ∈ l → p x = true → q x = false → l.countP q + 1 ≤ l.countP p
  | [], x, h, _, _ => by cases h
  | y :: l, x, h, hp, hq => by
    have mono : l.countP q ≤ l.countP p := List.countP_mono_left (fun a _ => hpq a)
    simp only [List.countP_cons]
    rcases List.mem_cons.1 h with rfl | h
    · simp [hp, hq]; omega
    · have := count_less hpq h hp hq
      have h2 : (if q y = true then 1 else 0) ≤ (if p y = true then 1 else 0) := by
        cases hy : q y with
        | false => simp
        | true => simp [hpq y hy]
      omega

section
variable {P : Program} {G : Globs} {r : Option Nat} {nt : Nat} {rec : Task → Option Res} {ops : Array Oper} {vs : List VO} {st : Nat → Env × H} {val : Nat → V} {e0 e' : Env} {h0 h' : H} {κ0 : K} {w0 : World} {a0 : Act}

structure Inv (P : Program) (nt : Nat) (ops : Array Oper) (vs : List VO) (st : Nat → Env × H) (val : Nat → V) (e0 : Env) (κ0 : K) (w0 : World) (a0 : Act) (listed : Array Bool) (q : Nat) (blk : Nat → Nat) (κ : K) (a : Act) (w : World) : Prop where
  lsize : listed.size = vs.length
  closed : ∀ (i : Nat) (o : Oper), Lst listed i → ops[i]? = some o → ∀ e ∈ o.after.toList, Region.binds .any e = true → Lst listed e.on
  qle : q ≤ vs.length
  lo : ∀ i, i < q → isEA (kdOf vs i) = true → Lst listed i
  hi : ∀ i, q ≤ i → isE (kdOf vs i) = true → ¬ Lst listed i
  ext : Ext κ0 w0 κ w
  rel : Rel (chkCode P) κ (st q).2 w
  old : ∀ t u, (∀ j, Lst listed j → dstOf vs j ≠ some t) → alook t e0 = some u → VR w κ u (a.tmps.getD t undef)
  new : ∀ j t, Lst listed j → (kdOf vs j = 4 → j < q) → dstOf vs j = some t → VR w κ (val j) (a.tmps.getD t undef)
  early : ∀ j, Lst listed j → kdOf vs j = 4 → q ≤ j → ∃ t xs ty z, dstOf vs j = some t ∧ a.tmps.getD t undef = .pointer (some ⟨blk j, 0, none⟩) ∧ κ.U (blk j) ∧ ¬ κ0.U (blk j) ∧
    w.heap[blk j]? = some (.cells ⟨xs⟩ ty (0, 0)) ∧ (vs[j]?).map VO.op = some (.alloc z) ∧ valsOk xs z = true
  inj : ∀ j k, Lst listed j → kdOf vs j = 4 → q ≤ j → Lst listed k → kdOf vs k = 4 → q ≤ k → blk j = blk k → j = k
  tsz : a.tmps.size = nt
  defs : a.defers = a0.defers

variable {listed : Array Bool} {q : Nat} {blk : Nat → Nat} {κ : K} {a : Act} {w : World}

theorem isE_of {k : Nat} (h : isEA k = true) : isE k = true ∨ k = 4 := by
  simp only [isEA, Bool.or_eq_true, Nat.beq_eq] at h; exact h
theorem kind_le {o : VOp} : kindOf o = 0 ∨ kindOf o = 1 ∨ isEA (kindOf o) = true := by
  cases o <;> first | exact .inl rfl | exact .inr (.inl rfl) | exact .inr (.inr rfl) | skip
  rename_i p _ _; cases p <;> exact .inr (.inr rfl)
theorem kd_le (vs : List VO) (i : Nat) : kdOf vs i = 0 ∨ kdOf vs i = 1 ∨ isEA (kdOf vs i) = true := by
  unfold kdOf; split
  · exact kind_le
  · exact .inl rfl

theorem VR.drop (U : Nat → Prop) {v : V} {x : Value} (h : VR w κ v x) : VR w (κ.cut κ.n U) v x := h.cut h.top_le

/-- plain catches up with what the machine has done -/
theorem Inv.norm (F : Facts P nt ops vs) (T : Trace rec G vs vs e0 h0 e' h' st val) (hx0 : ∀ b, b < κ0.base → κ0.U b) : ∀ (d : Nat) {q : Nat} {κ : K}, vs.length - q = d → Inv P nt ops vs st val e0 κ0 w0 a0 listed q blk κ a w →
    ∃ q' κ', q ≤ q' ∧ Inv P nt ops vs st val e0 κ0 w0 a0 listed q' blk κ' a w ∧ (q' = vs.length ∨ (isEA (kdOf vs q') = true ∧ ¬ Lst listed q')) := by
  intro d
  induction d with
  | zero => intro q κ hd I; exact ⟨q, κ, Nat.le_refl _, I, .inl (by have := I.qle; omega)⟩
  | succ d ih =>
    intro q κ hd I
    have hq : q < vs.length := by omega
    have next : ∀ {κ1 : K}, Inv P nt ops vs st val e0 κ0 w0 a0 listed (q + 1) blk κ1 a w → ∃ q' κ', q ≤ q' ∧ Inv P nt ops vs st val e0 κ0 w0 a0 listed q' blk κ' a w ∧ (q' = vs.length ∨ (isEA (kdOf vs q') = true ∧ ¬ Lst listed q')) := by
      intro κ1 I1
      obtain ⟨q', κ', h1, h2, h3⟩ := ih (by omega) I1
      exact ⟨q', κ', by omega, h2, h3⟩
    have quiet : (st (q + 1)).2 = (st q).2 → isEA (kdOf vs q) = false → Inv P nt ops vs st val e0 κ0 w0 a0 listed (q + 1) blk κ a w := by
      intro hs hk
      refine ⟨I.lsize, I.closed, hq, fun i hi hE => ?_, fun i hi hE => I.hi i (by omega) hE, I.ext, by rw [hs]; exact I.rel, I.old, fun j t hj h4 hd => ?_, fun j hj h4 hqj => I.early j hj h4 (by omega),
        fun j k h1 h2 h3 h4 h5 h6 => I.inj j k h1 h2 (by omega) h4 h5 (by omega), I.tsz, I.defs⟩
      · rcases Nat.lt_succ_iff_lt_or_eq.1 hi with h | rfl
        · exact I.lo i h hE
        · rw [hk] at hE; cases hE
      · refine I.new j t hj (fun h => ?_) hd
        rcases Nat.lt_succ_iff_lt_or_eq.1 (h4 h) with h' | rfl
        · exact h'
        · rw [h] at hk; cases hk
    rcases kd_le vs q with hk | hk | hk
    · exact next (quiet (T.same hq (.inl hk)) (by rw [hk]; rfl))
    · exact next (quiet (T.same hq (.inr hk)) (by rw [hk]; rfl))
    · by_cases hL : Lst listed q
      · -- a new variable that the machine has laid ahead
        have h4 : kdOf vs q = 4 := by
          rcases isE_of hk with h | h
          · exact absurd hL (I.hi q (Nat.le_refl _) h)
          · exact h
        obtain ⟨t, xs, ty, z, hd, htmp, hU, hU0, hB, hop, hz⟩ := I.early q hL h4 (Nat.le_refl _)
        obtain ⟨o, ho⟩ : ∃ o, vs[q]? = some o := ⟨vs[q], by simp⟩
        have hoo : o.op = .alloc z := by simpa [ho] using hop
        obtain ⟨hgn, _⟩ := F.A0 q o h4 ho
        obtain ⟨_, b, hgb, _, h1⟩ := T.step q o ho
        have hbt : b = true := by rw [hgn] at hgb; simpa [guarded] using hgb.symm
        have hr := (h1 hbt).1
        rw [hoo] at hr
        have hr' : val q = .ptr (st q).2.next 0 ∧ (st (q + 1)).2 = (st q).2.new (.cells z) := by
          simp only [runOp, ev, Option.some.injEq, Prod.mk.injEq] at hr
          exact ⟨hr.1.symm, hr.2.symm⟩
        obtain ⟨X, R'⟩ := I.rel.adopt hU (Nat.not_lt.1 fun hb => hU0 (hx0 _ (by rw [← I.ext.out.1]; exact hb))) hB (fun κ' => valsOk_sound hz)
        have X0 : Ext κ0 w0 (κ.cut κ.n (fun b => κ.U b ∧ b ≠ blk q)) w := by
          refine ⟨I.ext.n, I.ext.mu, I.ext.tb, I.ext.S, fun b hb => ⟨⟨(I.ext.U b hb).1, fun e => hU0 (e ▸ hb)⟩, (I.ext.U b hb).2⟩, I.ext.size, I.ext.out⟩
        refine next (κ1 := (κ.cut κ.n (fun b => κ.U b ∧ b ≠ blk q)).place (blk q)) ⟨I.lsize, I.closed, hq, fun i hi hE => ?_, fun i hi hE => I.hi i (by omega) hE, X0.trans X, by rw [hr'.2]; exact R',
          fun t u h1 h2 => ((I.old t u h1 h2).drop _).mono X, fun j t' hj h4' hd' => ?_, fun j hj h4' hqj => ?_,
          fun j k h1 h2 h3 h4 h5 h6 => I.inj j k h1 h2 (by omega) h4 h5 (by omega), I.tsz, I.defs⟩
        · rcases Nat.lt_succ_iff_lt_or_eq.1 hi with h | rfl
          · exact I.lo i h hE
          · exact hL
        · by_cases hjq : j = q
          · subst hjq
            rw [hd] at hd'; cases hd'
            rw [htmp, hr'.1]
            have := VR.ptr (w := w) (κ := (κ.cut κ.n (fun b => κ.U b ∧ b ≠ blk j)).place (blk j)) (st j).2.next 0 (by simp [K.place, K.cut, I.rel.n])
            simpa [K.place, K.cut, I.rel.n] using this
          · refine ((I.new j t' hj (fun h => ?_) hd').drop _).mono X
            have := h4' h; omega
        · obtain ⟨t', xs', ty', z', e1, e2, e3, e4, e5, e6, e7⟩ := I.early j hj h4' (by omega)
          refine ⟨t', xs', ty', z', e1, e2, ⟨e3, fun e => ?_⟩, e4, e5, e6, e7⟩
          have := I.inj j q hj h4' (by omega) hL h4 (Nat.le_refl _) e
          omega
      · exact ⟨q, κ, Nat.le_refl _, I, .inr ⟨hk, hL⟩⟩

/-- what an operation reads, once its forerunners are done -/
theorem Inv.env (F : Facts P nt ops vs) (T : Trace rec G vs vs e0 h0 e' h' st val) (I : Inv P nt ops vs st val e0 κ0 w0 a0 listed q blk κ a w) (hn : q = vs.length ∨ (isEA (kdOf vs q) = true ∧ ¬ Lst listed q))
    {i : Nat} (hi : i < vs.length) (hni : ¬ Lst listed i) (hb : ∀ j, Bf ops i j → Lst listed j) : ER w κ (Env.mask (tmOf vs i) (st i).1) a.tmps := by
  have hun : ∀ {j t}, dstOf vs j = some t → ∀ k, dstOf vs k = some t → k = j := fun h k hk => F.dst _ _ _ hk h
  have hcl : ∀ j, Lst listed j → Bf ops j i → False := fun j hj hbj => hni (F.closed (L := Lst listed) I.closed j (fun o ho => I.closed j o hj ho) i hbj)
  intro t u ht
  have hmem : t ∈ tmOf vs i := by
    have : ∀ (l : List Nat), alook t (Env.mask l (st i).1) = some u → t ∈ l := by
      intro l
      induction l with
      | nil => intro h; simp [Env.mask, alook] at h
      | cons x l ih =>
        intro h
        simp only [Env.mask, List.filterMap_cons] at h
        cases hx : alook x (st i).1 with
        | none => rw [hx] at h; exact List.mem_cons_of_mem _ (ih h)
        | some y =>
          rw [hx] at h
          simp only [Option.map_some, alook_cons] at h
          by_cases e : x = t
          · subst e; exact List.mem_cons_self ..
          · rw [if_neg e] at h; exact List.mem_cons_of_mem _ (ih h)
    exact this _ ht
  have hti := alook_mask _ ht
  by_cases hw : ∃ j, dstOf vs j = some t
  · obtain ⟨j, hj⟩ := hw
    rcases F.read i j t hi hj hmem with rfl | hbj | hbj
    · rw [T.before (t := t) (by omega) (fun k hk e => by have := hun hj k e; omega)] at hti
      exact I.old t u (fun k hk e => hni (hun hj k e ▸ hk)) hti
    · have hlt := F.lt i j hbj
      rw [T.at hj (hun hj) (by omega) hlt] at hti
      cases hti
      refine I.new j t (hb j hbj) (fun h4 => ?_) hj
      rcases hn with hn | ⟨hEq, hnq⟩
      · omega
      · rcases Nat.lt_or_ge j q with h | h
        · exact h
        · rcases Nat.lt_or_eq_of_le h with h | h
          · exact absurd (hb q (F.A1 i j q t hi h4 hj hmem hEq h)) hnq
          · subst h; exact absurd (hb q hbj) hnq
    · have hlt := F.lt j i hbj
      rw [T.before (t := t) (by omega) (fun k hk e => by have := hun hj k e; omega)] at hti
      exact I.old t u (fun k hk e => by have := hun hj k e; subst this; exact hcl k hk hbj) hti
  · rw [T.before (t := t) (by omega) (fun k _ e => hw ⟨k, e⟩)] at hti
    exact I.old t u (fun k _ e => hw ⟨k, e⟩) hti

/-- an operation is done: its place is listed -/
theorem Inv.done (F : Facts P nt ops vs) (I : Inv P nt ops vs st val e0 κ0 w0 a0 listed q blk κ a w) {i : Nat} (hi : i < vs.length) (hni : ¬ Lst listed i)
    (hfo : ∀ o, ops[i]? = some o → ∀ e ∈ o.after.toList, Region.binds .any e = true → Lst listed e.on) {κ' : K} {w' : World} {x : Value} {q' : Nat} (hqq : q ≤ q') (hql : q' ≤ vs.length)
    (hk : q' = q ∧ isEA (kdOf vs i) = false ∨ q' = i + 1 ∧ q = i ∧ isE (kdOf vs i) = true) (X : Ext κ w κ' w') (R : Rel (chkCode P) κ' (st q').2 w') (V : VR w' κ' (val i) x) :
    Inv P nt ops vs st val e0 κ0 w0 a0 (listed.setIfInBounds i true) q' blk κ' (a.put (dstOf vs i) x) w' := by
  have hls : i < listed.size := by rw [I.lsize]; exact hi
  have hset : ∀ k, Lst (listed.setIfInBounds i true) k ↔ k = i ∨ Lst listed k := fun k => lst_set hls
  have hi4 : kdOf vs i ≠ 4 := by
    rcases hk with ⟨_, h⟩ | ⟨_, _, h⟩ <;> intro e <;> rw [e] at h <;> cases h
  have hdsz : ∀ t, dstOf vs i = some t → t < a.tmps.size := by
    intro t ht
    obtain ⟨v, hv, hvd⟩ := dst_get ht
    have ho : ops[i]? = some (ops[i]'(by rw [F.len]; exact hi)) := by simp [F.len, hi]
    have := F.ok i _ v ho hv
    simp only [operOk, Bool.and_eq_true] at this
    rw [I.tsz]; exact (dstOk_lt this.1.1).2 t hvd
  have tmp_same : ∀ t, dstOf vs i ≠ some t → (a.put (dstOf vs i) x).tmps.getD t undef = a.tmps.getD t undef := by
    intro t ht
    cases hd : dstOf vs i with
    | none => rfl
    | some d =>
      simp only [Act.put, Array.getD_eq_getD_getElem?]
      rw [Array.getElem?_setIfInBounds_ne (fun e => ht (by rw [hd, e]))]
  have tmp_new : ∀ t, dstOf vs i = some t → (a.put (dstOf vs i) x).tmps.getD t undef = x := by
    intro t ht
    have := hdsz t ht
    rw [ht]
    simp only [Act.put, Array.getD_eq_getD_getElem?]
    rw [Array.getElem?_setIfInBounds_self_of_lt this]; rfl
  refine ⟨by simp [I.lsize], ?_, hql, ?_, ?_, I.ext.trans X, R, ?_, ?_, ?_, ?_, ?_, ?_⟩
  · intro k o hk' ho e he hb
    rcases (hset k).1 hk' with rfl | hk'
    · exact (hset _).2 (.inr (hfo o ho e he hb))
    · exact (hset _).2 (.inr (I.closed k o hk' ho e he hb))
  · intro k hkq hE
    rcases hk with ⟨h1, h2⟩ | ⟨h1, h2, h3⟩
    · exact (hset k).2 (.inr (I.lo k (by omega) hE))
    · rcases Nat.lt_or_ge k q with h | h
      · exact (hset k).2 (.inr (I.lo k h hE))
      · exact (hset k).2 (.inl (by omega))
  · intro k hkq hE hl
    rcases (hset k).1 hl with rfl | hl
    · rcases hk with ⟨_, h2⟩ | ⟨h1, _, _⟩
      · simp only [isEA, Bool.or_eq_false_iff] at h2
        rw [hE] at h2; cases h2.1
      · omega
    · exact I.hi k (by omega) hE hl
  · intro t u hno hu
    rw [tmp_same t (hno i ((hset i).2 (.inl rfl)))]
    exact (I.old t u (fun j hj => hno j ((hset j).2 (.inr hj))) hu).mono X
  · intro j t hj h4 hd
    by_cases e : j = i
    · subst e; rw [tmp_new t hd]; exact V
    · have hj' : Lst listed j := ((hset j).1 hj).resolve_left e
      rw [tmp_same t (fun hdi => e (F.dst _ _ _ hd hdi))]
      refine (I.new j t hj' (fun h => ?_) hd).mono X
      have h4' := h4 h
      rcases hk with ⟨h1, _⟩ | ⟨h1, h2, _⟩
      · omega
      · omega
  · intro j hj h4 hqj
    have e : j ≠ i := fun e => hi4 (e ▸ h4)
    have hj' : Lst listed j := ((hset j).1 hj).resolve_left e
    obtain ⟨t, xs, ty, z, e1, e2, e3, e4, e5, e6, e7⟩ := I.early j hj' h4 (by omega)
    refine ⟨t, xs, ty, z, e1, ?_, (X.U _ e3).1, e4, (X.U _ e3).2.trans e5, e6, e7⟩
    rw [tmp_same t (fun hdi => e (F.dst _ _ _ e1 hdi))]; exact e2
  · intro j k h1 h2 h3 h4 h5 h6 hb
    exact I.inj j k (((hset j).1 h1).resolve_left fun e => hi4 (e ▸ h2)) h2 (by omega) (((hset k).1 h4).resolve_left fun e => hi4 (e ▸ h5)) h5 (by omega) hb
  · rw [← I.tsz]; cases dstOf vs i <;> simp [Act.put]
  · rw [← I.defs]; cases dstOf vs i <;> rfl
end
end Go.Vi
/- Regions that draw their order, as a whole. No statement of a claim stands here. -/
namespace Go.Vi
open Go

section
variable {P : Program} {G : Globs} {r : Option Nat} {ro : Option Nat} {nt : Nat} {rec : Task → Option Res} {ops : Array Oper} {vs : List VO} {st : Nat → Env × H} {val : Nat → V} {e0 e' : Env} {h0 h' : H} {κ0 : K} {w0 : World} {a0 : Act}
variable {listed : Array Bool} {q : Nat} {blk : Nat → Nat} {κ : K} {a : Act} {w : World} {Q : Exit → Act → World → Prop}

theorem Inv.gr (I : Inv P nt ops vs st val e0 κ0 w0 a0 listed q blk κ a w) (hG : GR w0 κ0 G) : GR w κ G := hG.mono I.ext

/-- a new variable, whenever it comes -/
theorem alloc_go (F : Facts P nt ops vs) (T : Trace rec G vs vs e0 h0 e' h' st val) (I : Inv P nt ops vs st val e0 κ0 w0 a0 listed q blk κ a w) (hu0 : ∀ b, κ0.U b → b < w0.heap.size) {i : Nat} (hi : i < vs.length) (hni : ¬ Lst listed i)
    (hfo : ∀ o, ops[i]? = some o → ∀ e ∈ o.after.toList, Region.binds .any e = true → Lst listed e.on) (h4 : kdOf vs i = 4) {K : Act → World → Prop}
    (hK : ∀ blk' κ' a' w', Inv P nt ops vs st val e0 κ0 w0 a0 (listed.setIfInBounds i true) q blk' κ' a' w' → K a' w') : wpOpIn (fenceOf ro) 0 P ops Q i K a w := by
  obtain ⟨v, hv, hkv⟩ := kd_lt (vs := vs) (i := i) (by rw [h4]; simp)
  rw [h4] at hkv
  obtain ⟨o, ho⟩ : ∃ o, ops[i]? = some o := ⟨ops[i]'(by rw [F.len]; exact hi), by simp [F.len, hi]⟩
  have hok := F.ok i o v ho hv
  simp only [operOk, Bool.and_eq_true] at hok
  obtain ⟨⟨k1, k2⟩, k3⟩ := hok
  obtain ⟨hdd, hlt⟩ := dstOk_lt k1
  obtain ⟨hgn, t, hvt⟩ := F.A0 i v h4 hv
  obtain ⟨z, hz⟩ : ∃ z, v.op = .alloc z := by
    cases hop : v.op <;> rw [hop] at hkv <;> first | exact ⟨_, rfl⟩ | (simp [kindOf] at hkv; done) | skip
    rename_i p _ _; cases p <;> simp [kindOf] at hkv
  rw [hz] at k3
  have hgo : o.guard = none := by
    rw [hgn] at k2
    cases hg : o.guard with
    | none => rfl
    | some x => rw [hg] at k2; simp [guardOk] at k2
  have halloc : ∃ ty zv, o.op = .alloc ty ∧ zeroT P ty = some zv ∧ valsOk zv.cells.toList z = true := by
    generalize hop : o.op = op at k3
    cases op <;> simp only [chkOp] at k3 <;> try (cases k3; done)
    split at k3
    · rename_i hzz; exact ⟨_, _, rfl, hzz, k3⟩
    · cases k3
  obtain ⟨ty, zv, hop, hzz, hzc⟩ := halloc
  have hzr : (zeroValue ty).run P w = .ok zv w := by
    unfold zeroT at hzz
    simp only [Option.bind_eq_some_iff] at hzz
    obtain ⟨i', hi', hz'⟩ := hzz
    simp [zeroValue, typeInfo, hi', hz']
  have hrun : (execOp a.eval o).run P w = .ok (.value (.pointer (some ⟨w.heap.size, 0, none⟩))) (push w (.cells zv.cells ty)) := by
    simp [execOp, hop, Instr.alloc, hzr, run_newVar]
  unfold wpOpIn
  simp only [ho]
  have hw : Region.wanted o (yielded ops a.tmps) = true := by unfold Region.wanted; rw [hgo]
  rw [if_pos hw]
  refine ⟨fun f _ => fence_fn _ f, ?_⟩
  rw [Oper.semAt_eq _ _ _ (fun c hc => by rw [hop] at hc; cases hc), hrun, Oper.uponIn_value]
  obtain ⟨X, R⟩ := I.rel.push_framed (.cells zv.cells ty)
  have hls : i < listed.size := by rw [I.lsize]; exact hi
  have hset : ∀ k, Lst (listed.setIfInBounds i true) k ↔ k = i ∨ Lst listed k := fun k => lst_set hls
  have hdi : dstOf vs i = some t := by simp [dstOf, hv, hvt]
  have hqi : q ≤ i := by
    rcases Nat.lt_or_ge i q with h | h
    · exact absurd (I.lo i h (by rw [h4]; rfl)) hni
    · exact h
  have hts : t < a.tmps.size := by rw [I.tsz]; exact hlt t hvt
  have hod : o.dst = some t := by rw [hdd, hvt]
  rw [hod]
  have tmp_same : ∀ t', t' ≠ t → ∀ x, (a.put (some t) x).tmps.getD t' undef = a.tmps.getD t' undef := by
    intro t' ht x
    simp only [Act.put, Array.getD_eq_getD_getElem?]
    rw [Array.getElem?_setIfInBounds_ne (fun e => ht e.symm)]
  refine hK (fun k => if k = i then w.heap.size else blk k) _ _ _ ⟨by simp [I.lsize], ?_, I.qle, fun k hk hE => (hset k).2 (.inr (I.lo k hk hE)), ?_, I.ext.trans X, R, ?_, ?_, ?_, ?_, ?_, ?_⟩
  · intro k o' hk' ho' e he hb
    rcases (hset k).1 hk' with rfl | hk'
    · exact (hset _).2 (.inr (hfo o' ho' e he hb))
    · exact (hset _).2 (.inr (I.closed k o' hk' ho' e he hb))
  · intro k hkq hE hl
    rcases (hset k).1 hl with rfl | hl
    · rw [h4] at hE; cases hE
    · exact I.hi k hkq hE hl
  · intro t' u hno hu
    rw [tmp_same t' (fun e => hno i ((hset i).2 (.inl rfl)) (by rw [hdi, e]))]
    exact (I.old t' u (fun j hj => hno j ((hset j).2 (.inr hj))) hu).mono X
  · intro j t' hj h4' hd
    have e : j ≠ i := by rintro rfl; have := h4' h4; omega
    have hj' : Lst listed j := ((hset j).1 hj).resolve_left e
    rw [tmp_same t' (fun ht => e (F.dst _ _ _ hd (by rw [hdi, ht])))]
    exact (I.new j t' hj' h4' hd).mono X
  · intro j hj h4' hqj
    by_cases e : j = i
    · subst e
      refine ⟨t, zv.cells.toList, ty, z, hdi, ?_, ?_, ?_, ?_, by simp [hv, hz], hzc⟩
      · simp only [Act.put, Array.getD_eq_getD_getElem?, if_true]
        rw [Array.getElem?_setIfInBounds_self_of_lt hts]; rfl
      · simp
      · simp only [if_true]; intro hu; have := hu0 _ hu; have := I.ext.size; omega
      · simp only [if_true]; exact push_new w _
    · have hj' : Lst listed j := ((hset j).1 hj).resolve_left e
      obtain ⟨t', xs, ty', z', e1, e2, e3, e4, e5, e6, e7⟩ := I.early j hj' h4' hqj
      refine ⟨t', xs, ty', z', e1, ?_, ?_, ?_, ?_, e6, e7⟩
      · rw [tmp_same t' (fun ht => e (F.dst _ _ _ e1 (by rw [hdi, ht])))]; simp only [if_neg e]; exact e2
      · simp only [if_neg e]; exact (X.U _ e3).1
      · simp only [if_neg e]; exact e4
      · simp only [if_neg e]; exact (X.U _ e3).2.trans e5
  · intro j k h1 h2 h3 h4' h5 h6 hb
    have hne : ∀ j, Lst listed j → kdOf vs j = 4 → q ≤ j → blk j ≠ w.heap.size := by
      intro j a1 a2 a3 e
      obtain ⟨_, _, _, _, _, _, e3, _⟩ := I.early j a1 a2 a3
      have := I.rel.ult _ e3; omega
    by_cases ej : j = i <;> by_cases ek : k = i
    · rw [ej, ek]
    · simp only [if_pos ej, if_neg ek] at hb
      exact absurd hb.symm (hne k (((hset k).1 h4').resolve_left ek) h5 h6)
    · simp only [if_neg ej, if_pos ek] at hb
      exact absurd hb (hne j (((hset j).1 h1).resolve_left ej) h2 h3)
    · simp only [if_neg ej, if_neg ek] at hb
      exact I.inj j k (((hset j).1 h1).resolve_left ej) h2 h3 (((hset k).1 h4').resolve_left ek) h5 h6 hb
  · rw [← I.tsz]; simp [Act.put]
  · rw [← I.defs]; rfl

theorem tm_eq {i : Nat} {v : VO} (h : vs[i]? = some v) : tmOf vs i = v.tmps := by simp [tmOf, h]

/-- a reading comes to the same, whenever it comes -/
theorem read_go (F : Facts P nt ops vs) (T : Trace rec G vs vs e0 h0 e' h' st val) (hkeep : ∀ t r, rec t = some r → KeepsT t r) (I : Inv P nt ops vs st val e0 κ0 w0 a0 listed q blk κ a w) (hn : q = vs.length ∨ (isEA (kdOf vs q) = true ∧ ¬ Lst listed q))
    {i : Nat} (hi : i < vs.length) (hni : ¬ Lst listed i) (hb : ∀ j, Bf ops i j → Lst listed j) {v : VO} (hv : vs[i]? = some v) (hk1 : kdOf vs i = 1) (hg : guarded (st i).1 v.guard = some true)
    (hev : ev G (st i).1 (st i).2 v.op = some (val i, (st i).2)) : ev G (st i).1 (st q).2 v.op = some (val i, (st q).2) := by
  have hcl : ∀ j, Lst listed j → Bf ops j i → False := fun j hj hbj => hni (F.closed (L := Lst listed) I.closed j (fun o ho => I.closed j o hj ho) i hbj)
  have pure_same : ∀ k, k < vs.length → kdOf vs k = 2 → (st (k + 1)).2 = (st k).2 := by
    intro k hk h2
    obtain ⟨o, ho, hok⟩ := kd_lt (vs := vs) (i := k) (by rw [h2]; simp)
    rw [h2] at hok
    obtain ⟨_, b, _, f0, f1⟩ := T.step k o ho
    cases b with
    | false => exact (f0 rfl).2
    | true =>
      have hr := (f1 rfl).1
      obtain ⟨g, as, hop⟩ : ∃ g as, o.op = .call true g as := by
        cases hop : o.op <;> rw [hop] at hok <;> first | (simp [kindOf] at hok; done) | skip
        rename_i p _ _; cases p
        · simp [kindOf] at hok
        · exact ⟨_, _, rfl⟩
      rw [hop] at hr
      simp only [runOp, Option.bind_eq_bind, Option.bind_eq_some_iff] at hr
      obtain ⟨fv, _, avs, _, ⟨v1, h1, p1⟩, hcal, hr⟩ := hr
      cases p1 with
      | false => cases hr
      | true =>
        simp only [Option.some.injEq, Prod.mk.injEq] at hr
        rw [← hr.2]
        exact callee_pure hkeep hcal
  rcases Nat.lt_or_ge i q with hlt | hge
  · -- behind: whatever turned the heap since has been looked at again
    have key : ∀ d, i + 1 + d ≤ q → ev G (st i).1 (st (i + 1 + d)).2 v.op = some (val i, (st (i + 1 + d)).2) := by
      intro d
      induction d with
      | zero => intro _; rw [Nat.add_zero, T.same hi (.inr hk1)]; exact hev
      | succ d ih =>
        intro hd
        have ih := ih (by omega)
        have hkl : i + 1 + d < vs.length := by have := I.qle; omega
        have hs : (st (i + 1 + d + 1)).2 = (st (i + 1 + d)).2 → ev G (st i).1 (st (i + 1 + (d + 1))).2 v.op = some (val i, (st (i + 1 + (d + 1))).2) := by
          intro h
          rw [show i + 1 + (d + 1) = i + 1 + d + 1 by omega, h]; exact ih
        rcases kd_le vs (i + 1 + d) with hk | hk | hk
        · exact hs (T.same hkl (.inl hk))
        · exact hs (T.same hkl (.inr hk))
        · have hL := I.lo (i + 1 + d) (by omega) hk
          rcases F.R2 i (i + 1 + d) hk1 hk (by omega) with hbk | h2 | hre
          · exact (hcl _ hL hbk).elim
          · exact hs (pure_same _ hkl h2)
          · obtain ⟨o, ho⟩ : ∃ o, vs[i + 1 + d]? = some o := ⟨vs[i + 1 + d], by simp⟩
            obtain ⟨_, b, _, f0, f1⟩ := T.step _ o ho
            cases b with
            | false => exact hs (f0 rfl).2
            | true =>
              have hag := (f1 rfl).2
              have hre' : i ∈ o.re := by simpa [reOf, ho] using hre
              -- the temporaries read are as they were
              have hagr : Agree v.tmps (st (i + 1 + d)).1 (st i).1 := by
                intro t ht
                by_cases hw : ∃ j, dstOf vs j = some t
                · obtain ⟨j, hj⟩ := hw
                  have hji := F.lt _ _ (F.read1 i j t hk1 hj (by rw [tm_eq hv]; exact ht))
                  rw [T.at hj (fun k hk => F.dst _ _ _ hk hj) (by omega) (by omega), T.at hj (fun k hk => F.dst _ _ _ hk hj) (by omega) hji]
                · rw [T.before (by omega) (fun k _ e => hw ⟨k, e⟩), T.before (by omega) (fun k _ e => hw ⟨k, e⟩)]
              have hop : Agree v.op.tmps (st (i + 1 + d)).1 (st i).1 := hagr.left
              have hgd : guarded (st (i + 1 + d)).1 v.guard = some true := by rw [guarded_congr (e' := (st i).1) hagr.right]; exact hg
              have one : ∀ {l : List Nat}, i ∈ l → again G (st (i + 1 + d)).1 (st (i + 1 + d + 1)).2 vs l = true →
                  ∃ t v' h'' u, v.dst = some t ∧ ev G (st (i + 1 + d)).1 (st (i + 1 + d + 1)).2 v.op = some (v', h'') ∧ alook t (st (i + 1 + d)).1 = some u ∧ V.same v' u = true := by
                intro l
                induction l with
                | nil => intro h; cases h
                | cons y l ihl =>
                  intro h ha
                  simp only [again, Bool.and_eq_true] at ha
                  rcases List.mem_cons.1 h with rfl | h
                  · have ha1 := ha.1
                    rw [hv] at ha1
                    simp only [hgd] at ha1
                    split at ha1
                    · rename_i hx; cases hx
                    · rename_i t _ hdt
                      split at ha1
                      · rename_i v' h'' u he hu
                        exact ⟨t, v', h'', u, hdt, he, hu, ha1⟩
                      · cases ha1
                    · cases ha1
                  · exact ihl h ha.2
              obtain ⟨t, v', h'', u, hdt, he, hu, hsame⟩ := one hre' hag
              have hdi : dstOf vs i = some t := by simp [dstOf, hv, hdt]
              rw [T.at hdi (fun k hk => F.dst _ _ _ hk hdi) (by omega) (by omega)] at hu
              cases hu
              have hvv := V.same_eq hsame
              subst hvv
              rw [ev_congr hop] at he
              have hkv : kindOf v.op = 1 := by simpa [kdOf, hv] using hk1
              have := ev_read hkv he
              subst this
              rw [show i + 1 + (d + 1) = i + 1 + d + 1 by omega]; exact he
    have := key (q - (i + 1)) (by omega)
    rw [show i + 1 + (q - (i + 1)) = q by omega] at this
    exact this
  · -- ahead: what is still to come up to here leaves what is read
    have key : ∀ d, q + d ≤ i → ev G (st i).1 (st (i - d)).2 v.op = some (val i, (st (i - d)).2) := by
      intro d
      induction d with
      | zero => intro _; exact hev
      | succ d ih =>
        intro hd
        have ih := ih (by omega)
        obtain ⟨k, hkd⟩ : ∃ k, i - (d + 1) = k := ⟨_, rfl⟩
        have hk1' : i - d = k + 1 := by omega
        rw [hkd]
        rw [hk1'] at ih
        have hkl : k < vs.length := by omega
        have hs : (st (k + 1)).2 = (st k).2 → ev G (st i).1 (st k).2 v.op = some (val i, (st k).2) := fun h => by rw [← h]; exact ih
        rcases kd_le vs k with hk | hk | hk
        · exact hs (T.same hkl (.inl hk))
        · exact hs (T.same hkl (.inr hk))
        · rcases F.R1 i k hk1 hk (by omega) with hbk | h2 | h5
          · have hL := hb _ hbk
            exfalso
            rcases isE_of hk with hE | h4
            · exact I.hi k (by omega) hE hL
            · rcases hn with hn | ⟨hEq, hnq⟩
              · omega
              · rcases Nat.lt_or_ge q k with hlt' | hge'
                · exact hnq (hb q (F.A2 i k q h4 hk1 (by omega) hEq hlt'))
                · have : k = q := by omega
                  subst this; exact hnq hL
          · exact hs (pure_same _ hkl h2)
          · obtain ⟨o, ho, hok⟩ := kd_lt (vs := vs) (i := k) (by rw [h5]; simp)
            rw [h5] at hok
            obtain ⟨_, b, _, f0, f1⟩ := T.step k o ho
            cases b with
            | false => exact hs (f0 rfl).2
            | true =>
              have hr := (f1 rfl).1
              obtain ⟨kk, x, y, hop⟩ : ∃ kk x y, o.op = .append kk x y := by
                cases hop : o.op <;> rw [hop] at hok <;> first | exact ⟨_, _, _, rfl⟩ | (simp [kindOf] at hok; done) | skip
                rename_i p _ _; cases p <;> simp [kindOf] at hok
              rw [hop] at hr
              have hr' : ev G (st k).1 (st k).2 (.append kk x y) = some (val k, (st (k + 1)).2) := hr
              exact read_back (append_get hr') (by simpa [kdOf, hv] using hk1) ih
    have := key (i - q) (by omega)
    rw [show i - (i - q) = q by omega] at this
    exact this

/-- one operation of a region, its activation told -/
theorem oper_go (hrec : ∀ t r, rec t = some r → Sound P G t r) {i : Nat} {o : Oper} (hi : ops[i]? = some o) {v : VO} (hq : operOk P nt ops o v = true) {e : Env} {h h1 : H} {u : V} (hR : Rel (chkCode P) κ h w) (hE : ER w κ e a.tmps) (hG : GR w κ G)
    {b : Bool} (hb : guarded e v.guard = some b) (hv : if b then runOp rec G e h v.op = some (u, h1) else u = .tuple [] ∧ h1 = h) {K : Act → World → Prop}
    (hK : ∀ κ' w' x, Ext κ w κ' w' → Rel (chkCode P) κ' h1 w' → VR w' κ' u x → K (a.put v.dst x) w') : wpOpIn (fenceOf ro) 0 P ops Q i K a w := by
  simp only [operOk, Bool.and_eq_true] at hq
  obtain ⟨⟨k1, k2⟩, k3⟩ := hq
  obtain ⟨hd, _⟩ := dstOk_lt k1
  unfold wpOpIn
  simp only [hi, guard_sound k2 hE hb]
  rw [← hd] at hK
  cases b with
  | true => simp only [if_true] at hv ⊢; exact runOp_sound hrec hR hE hG k3 hv hK
  | false =>
    simp only [Bool.false_eq_true, if_false] at hv ⊢
    obtain ⟨rfl, rfl⟩ := hv
    exact ⟨fun f _ => fence_fn _ f, hK κ w undef (.refl _ _) hR (.tuple [] [] .nil)⟩

theorem draw_go (F : Facts P nt ops vs) (T : Trace rec G vs vs e0 h0 e' h' st val) (hrec : ∀ t r, rec t = some r → Sound P G t r) (hkeep : ∀ t r, rec t = some r → KeepsT t r) (hG : GR w0 κ0 G) (hu0 : ∀ b, κ0.U b → b < w0.heap.size) (hb0 : ∀ b, b < κ0.base → κ0.U b)
    (hQ : ∀ a κ w blk listed, (∀ i, i < vs.length → Lst listed i) → Inv P nt ops vs st val e0 κ0 w0 a0 listed vs.length blk κ a w → Q .normal a w) :
    ∀ (fuel : Nat) {listed : Array Bool} {q : Nat} {blk : Nat → Nat} {κ : K} {a : Act} {w : World}, Inv P nt ops vs st val e0 κ0 w0 a0 listed q blk κ a w → (List.range vs.length).countP (fun i => !listed.getD i false) ≤ fuel →
      wpAnyIn (fenceOf ro) 0 P .any ops Q fuel listed a w := by
  have all_in : ∀ {listed : Array Bool}, listed.size = ops.size → Region.ready .any ops listed = [] → ∀ i, i < vs.length → Lst listed i := by
    intro listed hs hr i
    induction i using Nat.strongRecOn with
    | _ i ih =>
      intro hi
      by_cases hL : Lst listed i
      · exact hL
      · have : i ∈ Region.ready .any ops listed := (ready_mem hs).2 ⟨by rw [F.len]; exact hi, hL, fun o ho e he hb => by
          have := F.edge i o ho e he hb
          exact ih e.on this (by omega)⟩
        rw [hr] at this; cases this
  have fin : ∀ {listed : Array Bool} {q : Nat} {blk : Nat → Nat} {κ : K} {a : Act} {w : World}, Inv P nt ops vs st val e0 κ0 w0 a0 listed q blk κ a w → (∀ i, i < vs.length → Lst listed i) → Q .normal a w := by
    intro listed q blk κ a w I hall
    obtain ⟨q', κ', _, I', hn⟩ := I.norm F T hb0 _ rfl
    rcases hn with rfl | ⟨hE, hL⟩
    · exact hQ a κ' w blk listed hall I'
    · obtain ⟨o, ho, _⟩ := kd_lt (isEA_ne hE)
      exact absurd (hall q' (List.getElem?_eq_some_iff.1 ho).1) hL
  intro fuel
  induction fuel with
  | zero =>
    intro listed q blk κ a w I hc
    have hs : listed.size = ops.size := by rw [I.lsize, F.len]
    have hall : ∀ i, i < vs.length → Lst listed i := by
      intro i hi
      have h0 : (List.range vs.length).countP (fun i => !listed.getD i false) = 0 := by omega
      have := List.countP_eq_zero.1 h0 i (List.mem_range.2 hi)
      unfold Lst
      cases hh : listed.getD i false with
      | true => rfl
      | false => rw [hh] at this; exact absurd rfl this
    refine ⟨?_, fin I hall⟩
    cases hr : Region.ready .any ops listed with
    | nil => rfl
    | cons x l =>
      have hx : x ∈ Region.ready .any ops listed := by rw [hr]; exact List.mem_cons_self ..
      obtain ⟨h1, h2, _⟩ := (ready_mem hs).1 hx
      exact absurd (hall x (by rw [← F.len]; exact h1)) h2
  | succ fuel ih =>
    intro listed q blk κ a w I hc
    have hs : listed.size = ops.size := by rw [I.lsize, F.len]
    refine ⟨fun hr => fin I (all_in hs hr), fun i hi => ?_⟩
    obtain ⟨h1, hni, hfo⟩ := (ready_mem hs).1 hi
    have hil : i < vs.length := by rw [← F.len]; exact h1
    have hls : i < listed.size := by rw [I.lsize]; exact hil
    have hcount : (List.range vs.length).countP (fun k => !(listed.setIfInBounds i true).getD k false) ≤ fuel := by
      have := count_less (p := fun k => !listed.getD k false) (q := fun k => !(listed.setIfInBounds i true).getD k false) (fun x hx => by
        have hx' : ¬ Lst (listed.setIfInBounds i true) x := by unfold Lst; simpa using hx
        have : ¬ Lst listed x := fun h => hx' ((lst_set hls).2 (.inr h))
        unfold Lst at this; simpa using this) (List.mem_range.2 hil) (x := i) (by unfold Lst at hni; simpa using hni) (by
        have : Lst (listed.setIfInBounds i true) i := (lst_set hls).2 (.inl rfl)
        unfold Lst at this; simpa using this)
      omega
    obtain ⟨q1, κ1, hq1, I1, hn⟩ := I.norm F T hb0 _ rfl
    have hbf : ∀ j, Bf ops i j → Lst listed j := F.closed (L := Lst listed) I.closed i hfo
    obtain ⟨v, hv⟩ : ∃ v, vs[i]? = some v := ⟨vs[i], by simp⟩
    have ho : ops[i]? = some ops[i] := by simp
    have hok := F.ok i _ v ho hv
    have hkd : kdOf vs i = kindOf v.op := by simp [kdOf, hv]
    have htm := tm_eq hv
    by_cases h4 : kdOf vs i = 4
    · exact alloc_go F T I1 hu0 hil hni hfo h4 fun blk' κ' a' w' I' => ih I' hcount
    have E := I1.env F T hn hil hni hbf
    have agr : Agree v.tmps (Env.mask (tmOf vs i) (st i).1) (st i).1 := by rw [← htm]; exact agree_mask
    obtain ⟨_, b, hg, f0, f1⟩ := T.step i v hv
    have hg' : guarded (Env.mask (tmOf vs i) (st i).1) v.guard = some b := by rw [guarded_congr (e' := (st i).1) agr.right]; exact hg
    have hdst : dstOf vs i = v.dst := by simp [dstOf, hv]
    have fin2 : ∀ {q2 : Nat}, q1 ≤ q2 → q2 ≤ vs.length → (q2 = q1 ∧ isEA (kdOf vs i) = false ∨ q2 = i + 1 ∧ q1 = i ∧ isE (kdOf vs i) = true) →
        (if b then runOp rec G (Env.mask (tmOf vs i) (st i).1) (st q1).2 v.op = some (val i, (st q2).2) else val i = .tuple [] ∧ (st q2).2 = (st q1).2) →
        wpOpIn (fenceOf ro) 0 P ops Q i (wpAnyIn (fenceOf ro) 0 P .any ops Q fuel (listed.setIfInBounds i true)) a w := by
      intro q2 ha hb' hk hrun
      refine oper_go hrec ho hok I1.rel E (I1.gr hG) hg' hrun fun κ' w' x X R V => ?_
      have := I1.done F hil hni hfo ha hb' hk X R V
      rw [hdst] at this
      exact ih this hcount
    rcases kd_le vs i with hk | hk | hk
    · refine fin2 (q2 := q1) (Nat.le_refl _) I1.qle (.inl ⟨rfl, by rw [hk]; rfl⟩) ?_
      cases b with
      | false => exact ⟨(f0 rfl).1, rfl⟩
      | true =>
        have hr := (f1 rfl).1
        have hev : ev G (st i).1 (st i).2 v.op = some (val i, (st (i + 1)).2) := by
          unfold runOp at hr
          split at hr
          · rename_i p f as hc; rw [hkd, hc] at hk; cases p <;> simp [kindOf] at hk
          · exact hr
        have := (ev_plain (by rw [← hkd]; exact hk) hev).2 (st q1).2
        rw [← ev_congr (e := Env.mask (tmOf vs i) (st i).1) agr.left] at this
        show runOp rec G _ _ _ = _
        unfold runOp
        split
        · rename_i p f as hc; rw [hkd, hc] at hk; cases p <;> simp [kindOf] at hk
        · exact this
    · refine fin2 (q2 := q1) (Nat.le_refl _) I1.qle (.inl ⟨rfl, by rw [hk]; rfl⟩) ?_
      cases b with
      | false => exact ⟨(f0 rfl).1, rfl⟩
      | true =>
        have hr := (f1 rfl).1
        have hev : ev G (st i).1 (st i).2 v.op = some (val i, (st (i + 1)).2) := by
          unfold runOp at hr
          split at hr
          · rename_i p f as hc; rw [hkd, hc] at hk; cases p <;> simp [kindOf] at hk
          · exact hr
        have hss := ev_read (by rw [← hkd]; exact hk) hev
        rw [hss] at hev
        have := read_go F T hkeep I1 hn hil hni hbf hv hk hg hev
        rw [← ev_congr (e := Env.mask (tmOf vs i) (st i).1) agr.left] at this
        show runOp rec G _ _ _ = _
        unfold runOp
        split
        · rename_i p f as hc; rw [hkd, hc] at hk; cases p <;> simp [kindOf] at hk
        · exact this
    · have hE : isE (kdOf vs i) = true := (isE_of hk).resolve_right h4
      have hqi : q1 = i := by
        rcases Nat.lt_or_ge q1 i with h | h
        · rcases hn with hn | ⟨hEq, hnq⟩
          · omega
          · exact absurd (hbf q1 (F.E i q1 hE hEq h)) hnq
        · rcases Nat.lt_or_eq_of_le h with h | h
          · exact absurd (I1.lo i h hk) hni
          · exact h.symm
      subst hqi
      refine fin2 (q2 := q1 + 1) (Nat.le_succ _) hil (.inr ⟨rfl, rfl, hE⟩) ?_
      cases b with
      | false => exact ⟨(f0 rfl).1, (f0 rfl).2⟩
      | true =>
        show runOp rec G _ _ _ = _
        rw [runOp_congr (e' := (st q1).1) agr.left]; exact (f1 rfl).1

theorem Ext.drawn (κ : K) (w : World) : Ext κ w κ { w with drawn := w.drawn + 1 } := ⟨Nat.le_refl _, fun _ _ => rfl, fun _ _ => .inl rfl, fun _ _ h => ⟨h, rfl⟩, fun _ h => ⟨h, rfl⟩, Nat.le_refl _, rfl, rfl, rfl⟩
theorem Rel.drawn {chk : Nat → Code → VCode → Bool} {h : H} (R : Rel chk κ h w) : Rel chk κ h { w with drawn := w.drawn + 1 } :=
  R.frame (Ext.drawn κ w) R.n (Nat.le_refl _) none (fun _ _ => rfl) (fun _ _ _ _ => ⟨rfl, fun _ => rfl⟩) (fun _ _ h => by cases h) (fun _ _ h => .inl h) (fun _ h => h)

/-- **a region that draws its order** -/
theorem draw_sound {id : Nat} {live : List Nat} {e : Env} {h : H} (hc : drawOk P nt ops vs = true) (hm : P.follows .mixedOrders = true) (hrec : ∀ t r, rec t = some r → Sound P G t r) (hkeep : ∀ t r, rec t = some r → KeepsT t r)
    (S : St P G r nt κ w a e h) (hr : runOps rec G vs vs e h = some (e', h')) : (Code.region id ops true).wpIn (fenceOf (r.map κ.mu)) 0 P (Fin P r nt κ w a .normal (Env.mask live e') h') a w := by
  have F := draw_facts hc
  obtain ⟨st, val, T⟩ := trace_exists vs hr
  refine wpIn_region_any hm ?_
  have hnone : ∀ i, ¬ Lst (Array.replicate ops.size false) i := by
    intro i; unfold Lst
    rw [Array.getD_eq_getD_getElem?]
    cases hq : (Array.replicate ops.size false)[i]? with
    | none => simp
    | some b =>
      have := Array.getElem?_eq_some_iff.1 hq
      obtain ⟨h1, h2⟩ := this
      simp at h2; subst h2; simp
  have I : Inv P nt ops vs st val e κ w a (Array.replicate ops.size false) 0 (fun _ => 0) κ a { w with drawn := w.drawn + 1 } :=
    ⟨by simp [F.len], fun i o hi => absurd hi (hnone i), Nat.zero_le _, fun i hi => by omega, fun i _ _ => hnone i, Ext.drawn κ w, by rw [T.first]; exact S.rel.drawn,
      fun t u _ hu => (S.er t u hu).mono (Ext.drawn κ w), fun j _ hj => absurd hj (hnone j), fun j hj => absurd hj (hnone j), fun j _ hj => absurd hj (hnone j), S.size, rfl⟩
  refine draw_go F T hrec hkeep S.gr S.rel.ult S.rel.bu (fun a' κ' w' blk listed hall I' => ?_) ops.size I ?_
  · refine ⟨rfl, κ', I'.ext, by have := I'.rel; rw [T.last] at this; exact this, ?_, I'.tsz, .same I'.defs⟩
    refine ER.mask ?_ live
    intro t u ht
    have ht' : alook t (st vs.length).1 = some u := by rw [T.last]; exact ht
    by_cases hw : ∃ j, dstOf vs j = some t
    · obtain ⟨j, hj⟩ := hw
      obtain ⟨o, hjo, _⟩ := dst_get hj
      have hjl := (List.getElem?_eq_some_iff.1 hjo).1
      rw [T.at hj (fun k hk => F.dst _ _ _ hk hj) (Nat.le_refl _) hjl] at ht'
      cases ht'
      exact I'.new j t (hall j hjl) (fun _ => hjl) hj
    · rw [T.before (Nat.le_refl _) (fun k _ e => hw ⟨k, e⟩)] at ht'
      exact I'.old t u (fun k _ e => hw ⟨k, e⟩) ht'
  · rw [F.len]
    exact Nat.le_trans (List.countP_le_length) (by simp)
end
end Go.Vi
