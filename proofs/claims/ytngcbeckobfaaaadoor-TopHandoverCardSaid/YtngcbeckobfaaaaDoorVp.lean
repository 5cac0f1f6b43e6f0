/- Each operation of the plain reading against the model's, one by one (first part). No statement of a claim stands here. -/
import Derived.Test.YtngcbeckobfaaaaDoorVh
set_option linter.unusedSimpArgs false
set_option linter.unusedVariables false
namespace Go.Vi
open Go

section
variable {P : Program} {chk : Nat → Code → VCode → Bool} {w : World} {κ : K} {h h' : H} {G : Globs} {e : Env} {a : Act} {o : Oper} {v : V}

/-- the operation runs, to what the plain reading says -/
def Done (P : Program) (chk : Nat → Code → VCode → Bool) (o : Oper) (a : Act) (w : World) (κ : K) (h' : H) (v : V) : Prop :=
  ∃ κ' w' x, ((execOp a.eval o).run P w = .ok (.value x) w' ∨ ((execOp a.eval o).run P w = .ok .skip w' ∧ x = undef)) ∧ Ext κ w κ' w' ∧ Rel chk κ' h' w' ∧ VR w' κ' v x

theorem Done.quiet (R : Rel chk κ h w) {x : Value} (hr : (execOp a.eval o).run P w = .ok (.value x) w) (hv : VR w κ v x) : Done P chk o a w κ h v :=
  ⟨κ, w, x, .inl hr, .refl _ _, R, hv⟩

theorem do_move (hG : GR w κ G) (hE : ER w κ e a.tmps) (R : Rel chk κ h w) {x : Operand} {y : Opd} (ho : o.op = .move x ∨ o.op = .assign x) (hc : opdOk x y = true)
    (hv : ev G e h (.move y) = some (v, h')) : Done P chk o a w κ h' v := by
  simp only [ev, Option.bind_eq_bind, Option.bind_eq_some_iff, Option.some.injEq, Prod.mk.injEq] at hv
  obtain ⟨u, hu, rfl, rfl⟩ := hv
  refine .quiet R ?_ (opd_sound hG hE hc hu)
  rcases ho with ho | ho <;> simp [execOp, ho]

theorem do_freeze_slice (hG : GR w κ G) (hE : ER w κ e a.tmps) (R : Rel chk κ h w) {x : Operand} {y : Opd} {k : Nat} {ag : Bool} (ho : o.op = .move x ∨ o.op = .assign x) (hc : opdOk x y = true)
    {es : List V} {t : Tip} (hy : y.val G e = some (.slice k es t)) (hv : ev G e h (.freeze k ag y) = some (v, h')) : Done P chk o a w κ h' v := by
  simp only [ev, Option.bind_eq_bind, hy, Option.bind_some, if_true, Option.some.injEq, Prod.mk.injEq] at hv
  obtain ⟨rfl, rfl⟩ := hv
  refine .quiet R ?_ (opd_sound hG hE hc hy)
  rcases ho with ho | ho <;> simp [execOp, ho]

theorem do_pick (hG : GR w κ G) (hE : ER w κ e a.tmps) (R : Rel chk κ h w) {c x y : Operand} {c' x' y' : Opd} (ho : o.op = .pick c x y)
    (h1 : opdOk c c' = true) (h2 : opdOk x x' = true) (h3 : opdOk y y' = true) (hv : ev G e h (.pick c' x' y') = some (v, h')) : Done P chk o a w κ h' v := by
  simp only [ev, Option.bind_eq_bind, Option.bind_eq_some_iff] at hv
  obtain ⟨u, hu, hv⟩ := hv
  have hcu := opd_sound hG hE h1 hu
  split at hv
  · have hb := hcu.bool_inv
    simp only [Option.bind_eq_some_iff, Option.some.injEq, Prod.mk.injEq] at hv
    obtain ⟨u', hu', rfl, rfl⟩ := hv
    refine .quiet R ?_ (opd_sound hG hE h2 hu')
    simp [execOp, ho, asBool, hb]
  · have hb := hcu.bool_inv
    simp only [Option.bind_eq_some_iff, Option.some.injEq, Prod.mk.injEq] at hv
    obtain ⟨u', hu', rfl, rfl⟩ := hv
    refine .quiet R ?_ (opd_sound hG hE h3 hu')
    simp [execOp, ho, asBool, hb]
  · cases hv

theorem run_newVar (t : TypeId) (x : Value) : (newVar t x).run P w = .ok ⟨w.heap.size, 0, none⟩ (push w (.cells x.cells t)) := by
  simp [newVar, newRow, push]

theorem place_ptr {o' : Obj} (hn : κ.n = h.next) : VR (push w o') (κ.place w.heap.size) (.ptr h.next 0) (.pointer (some ⟨w.heap.size, 0, none⟩)) := by
  have := VR.ptr (w := push w o') (κ := κ.place w.heap.size) h.next 0 (by simp [K.place, hn])
  simpa [K.place, hn] using this

theorem do_alloc (R : Rel chk κ h w) {t : TypeId} {z : List V} (ho : o.op = .alloc t) {zv : Value} (hz : zeroT P t = some zv) (hc : valsOk zv.cells.toList z = true)
    (hv : ev G e h (.alloc z) = some (v, h')) : Done P chk o a w κ h' v := by
  simp only [ev, Option.some.injEq, Prod.mk.injEq] at hv
  obtain ⟨rfl, rfl⟩ := hv
  have hzr : (zeroValue t).run P w = .ok zv w := by
    unfold zeroT at hz
    simp only [Option.bind_eq_some_iff] at hz
    obtain ⟨i, hi, hz⟩ := hz
    simp [zeroValue, typeInfo, hi, hz]
  obtain ⟨X, R'⟩ := R.push_place (.cells zv.cells t) (.cells z) rfl (by intro _ _ h; cases h)
    (fun _ => ⟨zv.cells.toList, t, by simp only [K.place, if_true]; exact push_new w _, valsOk_sound hc⟩)
  refine ⟨_, _, .pointer (some ⟨w.heap.size, 0, none⟩), .inl ?_, X, R', place_ptr R.n⟩
  simp [execOp, ho, Instr.alloc, hzr, run_newVar]

theorem do_box (hG : GR w κ G) (hE : ER w κ e a.tmps) (R : Rel chk κ h w) {t : TypeId} {x : Operand} {y : Opd} (ho : o.op = .box t x) (hc : opdOk x y = true)
    (hv : ev G e h (.box y) = some (v, h')) : Done P chk o a w κ h' v := by
  simp only [ev, Option.bind_eq_bind, Option.bind_eq_some_iff] at hv
  obtain ⟨u, hu, hv⟩ := hv
  have hx := opd_sound hG hE hc hu
  have hne : u ≠ .undef := by rintro rfl; simp at hv
  have hv' : some (V.ptr h.next 0, h.new (.cells u.cells)) = some (v, h') := by
    cases u <;> first | exact hv | exact absurd rfl hne
  simp only [Option.some.injEq, Prod.mk.injEq] at hv'
  obtain ⟨rfl, rfl⟩ := hv'
  have hcell : VRL w κ u.cells (a.eval x).cells.toList := hx.cells (by cases u <;> simp_all [V.cells, V.isAgg])
  obtain ⟨X, R'⟩ := R.push_place (.cells (a.eval x).cells t) (.cells u.cells) rfl (by intro _ _ h; cases h)
    (fun X => ⟨(a.eval x).cells.toList, t, by simp only [K.place, if_true]; exact push_new w _, hcell.mono X⟩)
  refine ⟨_, _, .pointer (some ⟨w.heap.size, 0, none⟩), .inl ?_, X, R', place_ptr R.n⟩
  simp [execOp, ho, Instr.box, run_newVar]

theorem do_load (hG : GR w κ G) (hE : ER w κ e a.tmps) (R : Rel chk κ h w) {t : TypeId} {x : Operand} {y : Opd} {s : Option Nat} (ho : o.op = .load t x) (hs : shapeT P t = some s) (hc : opdOk x y = true)
    (hv : ev G e h (.load s y) = some (v, h')) : Done P chk o a w κ h' v := by
  simp only [ev, Option.bind_eq_bind, Option.bind_eq_some_iff] at hv
  obtain ⟨u, hu, hv⟩ := hv
  have hx := opd_sound hG hE hc hu
  have fin : ∀ (B q : Nat) (y : Value), a.eval x = .pointer (some ⟨B, q, none⟩) → (loadVar t ⟨B, q, none⟩).run P w = .ok y w → (execOp a.eval o).run P w = .ok (.value y) w := by
    intro B q y hp hl
    simp [execOp, ho, Instr.loadAt, hp, Instr.sureAddr, hl]
  split at hv
  · rename_i b q
    obtain ⟨hb, hxx⟩ := hx.ptr_inv
    split at hv
    · rename_i cs hg
      simp only [Option.bind_eq_some_iff, Option.some.injEq, Prod.mk.injEq] at hv
      obtain ⟨u', hu', rfl, rfl⟩ := hv
      obtain ⟨xs, ty, hB, hl⟩ := (R.obj _ _ hg).2
      obtain ⟨y, hy, hr⟩ := load_block hB hl hs hu'
      exact .quiet R (fin _ _ _ hxx hy) hr
    · cases hv
  · rename_i u'
    obtain ⟨B, q, xs, hxx, hcr, hm⟩ := hx.vptr_inv
    split at hv
    · cases hv
    · rename_i hna
      simp only [Option.some.injEq, Prod.mk.injEq] at hv
      obtain ⟨rfl, rfl⟩ := hv
      obtain ⟨y, hy, hr⟩ := load_mem (P := P) (t := t) hcr hm hs (by cases u' <;> first | trivial | exact (hna _ rfl).elim)
      exact .quiet R (fin _ _ _ hxx hy) hr
    · rename_i n cs
      split at hv
      · rename_i hn
        simp only [Option.some.injEq, Prod.mk.injEq] at hv
        obtain ⟨rfl, rfl⟩ := hv
        obtain ⟨y, hy, hr⟩ := load_mem (P := P) (t := t) hcr hm hs hn
        exact .quiet R (fin _ _ _ hxx hy) hr
      · cases hv
    · cases hv
  · cases hv
end
end Go.Vi
