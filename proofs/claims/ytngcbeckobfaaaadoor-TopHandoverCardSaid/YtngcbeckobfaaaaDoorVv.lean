/- Each operation of the plain reading against the model's, one by one (fifth part). No statement of a claim stands here. -/
import Derived.Test.YtngcbeckobfaaaaDoorVu
set_option linter.unusedSimpArgs false
set_option linter.unusedVariables false
namespace Go.Vi
open Go

section
variable {P : Program} {chk : Nat → Code → VCode → Bool} {w : World} {κ : K} {h h' : H} {G : Globs} {e : Env} {a : Act} {o : Oper} {v : V}

/-- the shape of a value that has cells of these kinds -/
theorem shaped_of {t : TypeId} {ag : Bool} {ks : List (Option IntKind)} {u : V} {x : Value} (hu : VR w κ u x) (hk : keyOk ag ks u = true) (ha : aggT P t = ag) :
    ∃ us xs, VRL w κ us xs ∧ kindsOk ks us = true ∧ Shaped P t xs x ∧ us = u.cells ∧ ((u.isAgg = true ∧ ag = true) ∨ (u.isAgg = false ∧ us = [u])) := by
  unfold aggT at ha
  unfold Shaped
  by_cases hg : u.isAgg = true
  · cases u <;> simp [V.isAgg] at hg
    obtain ⟨xs, rfl, hl⟩ := hu.agg_inv
    simp only [keyOk, Bool.and_eq_true] at hk
    refine ⟨_, xs, hl, hk.2, ?_, rfl, .inl ⟨rfl, hk.1⟩⟩
    rw [hk.1] at ha
    split at ha <;> simp_all
  · have hk' : ag = false ∧ kindsOk ks [u] = true := by cases u <;> simp_all [keyOk, V.isAgg]
    obtain ⟨rfl, hk'⟩ := hk'
    refine ⟨[u], [x], .cons _ _ _ _ hu .nil, hk', ?_, ?_, .inr ⟨by simpa using hg, rfl⟩⟩
    · split at ha <;> simp_all
    · cases u <;> simp_all [V.cells, V.isAgg, kindsOk]
      all_goals (cases ks with
        | nil => simp [kindsOk] at hk'
        | cons k ks => cases k <;> simp [kindsOk] at hk')

/-- two values that are compared -/
theorem run_equal {t : TypeId} {ag : Bool} {ks : List (Option IntKind)} (hf : flatK P 100 t = some ks) (ha : aggT P t = ag) {u v : V} {x y : Value} (hu : VR w κ u x) (hv : VR w κ v y) (hk : keyOk ag ks u = true) {r : Bool} (he : eqv u v = some r) :
    (Op.equal t x y).run P w = .ok r w := by
  obtain ⟨us, xs, hl, hks, sx, ecs, hg⟩ := shaped_of (P := P) hu hk ha
  have main : ∀ vs ys, VRL w κ vs ys → us.length = vs.length → eqL us vs = some r → Shaped P t ys y → (Op.equal t x y).run P w = .ok r w := by
    intro vs ys h1 h2 h3 h4
    exact equal_flat (P := P) 9900 100 t ks hf w κ us vs xs ys r x y hl h1 hks h2 h3 sx h4
  rcases hg with ⟨hg, rfl⟩ | ⟨hg, rfl⟩
  · cases u <;> simp [V.isAgg] at hg
    simp only [V.cells] at ecs; subst ecs
    unfold eqv at he
    split at he
    · rename_i a b heq
      cases heq
      split at he
      · rename_i hlen
        obtain ⟨ys, rfl, hl2⟩ := hv.agg_inv
        refine main _ _ hl2 hlen he ?_
        unfold aggT at ha; unfold Shaped
        split at ha <;> simp_all
      · cases he
    · simp [eq1] at he
  · have hag : ag = false := by
      cases u <;> simp_all [keyOk, V.isAgg]
    subst hag
    have he1 : eq1 u v = some r := by
      unfold eqv at he
      split at he
      · simp [V.isAgg] at hg
      · exact he
    refine main [v] [y] (.cons _ _ _ _ hv .nil) rfl ?_ ?_
    · simp only [eqL, he1]; cases r <;> rfl
    · unfold aggT at ha; unfold Shaped
      split at ha <;> simp_all

theorem eqGuard_flat {op : BinOp} {t : TypeId} {p q : Operand} {x y : Value} (hm : P.eqGuardType P.depth t = false) {ag : Bool} {ks : List (Option IntKind)} {u : V} (hu : VR w κ u x) (hk : keyOk ag ks u = true) :
    (eqGuard op t p q x y).run P w = .ok () w := by
  have hx : x ≠ .nilIface := by
    rintro rfl
    cases hu
    have : kindsOk ks [V.undef] = true := by cases ag <;> simp_all [keyOk]
    cases ks with
    | nil => simp [kindsOk] at this
    | cons k ks => cases k <;> simp [kindsOk] at this
  cases x <;> first
    | (exact absurd rfl hx)
    | (cases y <;> cases op <;> simp [eqGuard, run_program, hm]; done)

theorem do_eql (hG : GR w κ G) (hE : ER w κ e a.tmps) (R : Rel chk κ h w) {op : BinOp} {t t' : TypeId} {x y : Operand} {x' y' : Opd} {ag neg : Bool} {ks : List (Option IntKind)} (ho : o.op = .binOp op t x y t')
    (hop : op = if neg then .neq else .eql) (hf : flatK P 100 t = some ks) (ha : aggT P t = ag) (hm : P.eqGuardType P.depth t = false) (hx : opdOk x x' = true) (hy : opdOk y y' = true)
    (hv : ev G e h (.eql ag ks neg x' y') = some (v, h')) : Done P chk o a w κ h' v := by
  simp only [ev, Option.bind_eq_bind, Option.bind_eq_some_iff] at hv
  obtain ⟨u, hu, p, hp, b, hb, hv⟩ := hv
  split at hv
  · rename_i hk
    simp only [Option.some.injEq, Prod.mk.injEq] at hv
    obtain ⟨rfl, rfl⟩ := hv
    have hru := opd_sound hG hE hx hu
    have hrp := opd_sound hG hE hy hp
    have h1 := run_equal hf ha hru hrp hk hb
    have h2 := eqGuard_flat (P := P) (op := op) (p := x) (q := y) (y := a.eval y) hm hru hk
    refine .quiet R (x := .bool (if neg then !b else b)) ?_ (.bool _)
    have h3 : (binOp op t (a.eval x) (a.eval y)).run P w = .ok (.bool (if neg then !b else b)) w := by
      have hb' := hb
      unfold eqv at hb'
      split at hb'
      · obtain ⟨xs, e1, _⟩ := hru.agg_inv
        obtain ⟨ys, e2, _⟩ := hrp.agg_inv
        rw [e1, e2] at h1 ⊢
        subst hop
        cases neg <;> simp [binOp, h1]
      · unfold eq1 at hb'
        split at hb'
        · split at hb'
          · rename_i hkk; subst hkk
            rw [hru.int_inv, hrp.int_inv]
            subst hop
            simp only [Option.some.injEq] at hb'
            cases neg <;> simp [binOp, Op.intCmp, ← hb', bne]
          · cases hb'
        · rw [hru.bool_inv, hrp.bool_inv] at h1 ⊢
          subst hop
          cases neg <;> simp [binOp, h1]
        · cases hb'
    simp only [execOp, ho, Sem.run_bind, h2, Result.andThen_ok, h3, Sem.run_pure]
  · cases hv

/-- a key of such a type is always good -/
theorem run_checkKey_flat (em : Bool) : ∀ (m : Nat) (t : TypeId) (ks : List (Option IntKind)), flatK P m t = some ks → noArr P m t = true → ∀ (d : Nat) (w : World) (cs : List Value) (X : Value), cs.length = ks.length → Shaped P t cs X →
    (Instr.checkKey em (d + m) t X).run P w = .ok () w
  | 0, t, ks, hf, _, _, _, _, _, _, _ => by simp [flatK] at hf
  | m + 1, t, ks, hf, ha, d, w, cs, X, hl, sX => by
    unfold flatK at hf
    unfold noArr at ha
    unfold Shaped at sX
    cases hu : P.underlying t with
    | none => simp [hu] at hf
    | some td =>
      rw [hu] at hf ha sX
      cases td <;> simp only at hf ha sX <;> try (cases hf; done)
      · rw [show d + (m + 1) = (d + m) + 1 from rfl]; simp [Instr.checkKey, run_underlying hu]
      · rw [show d + (m + 1) = (d + m) + 1 from rfl]; simp [Instr.checkKey, run_underlying hu]
      · cases ha
      · rename_i fs
        subst sX
        split at hf
        · cases hf
        · rw [show d + (m + 1) = (d + m) + 1 from rfl, Instr.checkKey]
          simp only [Sem.run_bind, run_underlying hu, Result.andThen_ok]
          rw [← Array.forIn_toList]
          have hall := List.all_eq_true.1 ha
          clear ha hu
          generalize fs.toList = L at hf hall
          have gen : ∀ (L : List Field) (off : Nat) (ks' : List (Option IntKind)), flatFields P (flatK P m) off L = some ks' → (∀ f ∈ L, noArr P m f.type = true) → off + ks'.length ≤ cs.length →
              (forIn (m := Sem) L PUnit.unit (fun f _ => do
                if f.name ≠ "_" then Instr.checkKey em (d + m) f.type (← part f.type ⟨cs⟩ f.offset)
                pure (ForInStep.yield PUnit.unit))).run P w = .ok PUnit.unit w := by
            intro L
            induction L with
            | nil => intro off ks' _ _ _; simp
            | cons f L ih =>
              intro off ks' hf' hall' hlen
              simp only [flatFields] at hf'
              split at hf'
              · cases hf'
              · rename_i hn
                split at hf'
                · rename_i hoff
                  split at hf'
                  · rename_i k hfk
                    split at hf'
                    · rename_i hsz
                      simp only [Option.map_eq_some_iff] at hf'
                      obtain ⟨ks2, h2, rfl⟩ := hf'
                      simp only [List.length_append] at hlen
                      obtain ⟨Y, py, sy⟩ := part_shaped (w := w) hfk hsz (xs := cs) (off := off) (by omega)
                      rw [← hoff] at py
                      have hck := run_checkKey_flat em m f.type k hfk (hall' f (by simp)) d w _ Y (by simp; omega) sy
                      have hname : f.name ≠ "_" := by simpa using hn
                      have := ih (off + k.length) ks2 h2 (fun g hg => hall' g (by simp [hg])) (by omega)
                      simp only [List.forIn_cons, Sem.run_bind, hname, ne_eq, not_false_eq_true, if_true, py, Result.andThen_ok, hck, Sem.run_pure]
                      simpa using this
                    · cases hf'
                  · cases hf'
                · cases hf'
          have := gen L 0 ks hf hall (by omega)
          simp at this ⊢
          simp [this]
end
end Go.Vi
