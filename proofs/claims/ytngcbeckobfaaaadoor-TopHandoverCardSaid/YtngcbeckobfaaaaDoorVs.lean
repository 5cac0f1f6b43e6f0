/- Each operation of the plain reading against the model's, one by one (third part). No statement of a claim stands here. -/
import Derived.Test.YtngcbeckobfaaaaDoorVq
set_option linter.unusedSimpArgs false
set_option linter.unusedVariables false
namespace Go.Vi
open Go

section
variable {P : Program} {chk : Nat → Code → VCode → Bool} {w : World} {κ : K} {h h' : H} {G : Globs} {e : Env} {a : Act} {o : Oper} {v : V}

theorem ival_some {u : V} {n : Int} (h : ival u = some n) : ∃ k, u = .int k n := by
  unfold ival at h; split at h
  · cases h; exact ⟨_, rfl⟩
  · cases h

theorem do_fieldAddr (hG : GR w κ G) (hE : ER w κ e a.tmps) (R : Rel chk κ h w) {t : TypeId} {x : Operand} {x' : Opd} {i off : Nat} {s : Option Nat} {fs : Array Field} {f : Field} (ho : o.op = .fieldAddr t x i)
    (hu : P.underlying t = some (.struct fs)) (hf : fs[i]? = some f) (hoff : f.offset = off) {n : Nat} (hn : sizeT P f.type = some n) (hn0 : n ≠ 0) (hx : opdOk x x' = true)
    (hv : ev G e h (.fieldAddr off s x') = some (v, h')) : Done P chk o a w κ h' v := by
  simp only [ev, Option.bind_eq_bind, Option.bind_eq_some_iff] at hv
  obtain ⟨u, hu', hv⟩ := hv
  have hru := opd_sound hG hE hx hu'
  have hsz : (sizeOf f.type).run P w = .ok n w := by
    unfold sizeT at hn
    simp only [Option.map_eq_some_iff] at hn
    obtain ⟨i, hi, rfl⟩ := hn
    simp [sizeOf, typeInfo, hi]
  have fin : ∀ B q, a.eval x = .pointer (some ⟨B, q, none⟩) → (execOp a.eval o).run P w = .ok (.value (.pointer (some ⟨B, q + off, none⟩))) w := by
    intro B q hp
    simp only [execOp, ho, Instr.fieldAt, Sem.run_bind, run_underlying hu, Result.andThen_ok, hf, hp, Instr.sureAddr, Sem.run_pure, fieldPlace, hsz, Sem.run_ite, if_neg hn0]
    rw [hoff, add_none]
  split at hv
  · simp only [Option.some.injEq, Prod.mk.injEq] at hv
    obtain ⟨rfl, rfl⟩ := hv
    obtain ⟨hb, hxx⟩ := hru.ptr_inv
    exact .quiet R (fin _ _ hxx) (.ptr _ _ hb)
  · simp only [Option.bind_eq_some_iff, Option.some.injEq, Prod.mk.injEq] at hv
    obtain ⟨p, hp, rfl, rfl⟩ := hv
    obtain ⟨B, q, xs, hxx, hc, hm⟩ := hru.vptr_inv
    cases hc with
    | agg _ _ hl => exact .quiet R (fin _ _ hxx) (sub_mem hl hm hp)
    | one _ _ hna _ => simp [V.isAgg] at hna
  · cases hv

theorem RR.drop : ∀ {k : Nat} {es : List V} {xs : List Value} (n : Nat), RR w κ k es xs → RR w κ k (es.drop n) (xs.drop (n * k))
  | _, _, _, 0, r => by simpa using r
  | _, _, _, n + 1, .nil k => by simpa using .nil k
  | _, _, _, n + 1, .cons k e es xs ys hc hk hr => by
    have := hr.drop n
    have e1 : (xs ++ ys).drop ((n + 1) * k) = ys.drop (n * k) := by
      rw [List.drop_append, List.drop_eq_nil_of_le (by rw [hk, Nat.succ_mul]; omega), List.nil_append]
      congr 1
      rw [hk, Nat.succ_mul]; omega
    rw [e1]
    simpa using this
theorem RR.take : ∀ {k : Nat} {es : List V} {xs : List Value} (n : Nat), RR w κ k es xs → RR w κ k (es.take n) (xs.take (n * k))
  | k, _, _, 0, r => by simpa using RR.nil k
  | _, _, _, n + 1, .nil k => by simpa using .nil k
  | _, _, _, n + 1, .cons k e es xs ys hc hk hr => by
    have := hr.take n
    have e1 : (xs ++ ys).take ((n + 1) * k) = xs ++ ys.take (n * k) := by
      rw [List.take_append, List.take_of_length_le (by rw [hk, Nat.succ_mul]; omega)]
      congr 2
      rw [hk, Nat.succ_mul]; omega
    rw [e1, List.take_succ_cons]
    exact .cons _ _ _ _ _ hc hk this
theorem RR.length : ∀ {k : Nat} {es : List V} {xs : List Value}, RR w κ k es xs → xs.length = es.length * k
  | _, _, _, .nil k => by simp
  | _, _, _, .cons k e es xs ys hc hk hr => by simp [hr.length, hk, Nat.succ_mul, Nat.add_comm]
theorem RR.append : ∀ {k : Nat} {es fs : List V} {xs ys : List Value}, RR w κ k es xs → RR w κ k fs ys → RR w κ k (es ++ fs) (xs ++ ys)
  | _, _, _, _, _, .nil k, r => r
  | _, _, _, _, _, .cons k e es xs ys hc hk hr, r => by rw [List.append_assoc]; exact .cons _ _ _ _ _ hc hk (hr.append r)
theorem RR.get {k : Nat} {es : List V} {xs : List Value} (r : RR w κ k es xs) {i : Nat} {u : V} (hu : es[i]? = some u) : CR w κ u ((xs.drop (i * k)).take k) := by
  have hd := r.drop i
  have he : es.drop i = u :: es.drop (i + 1) := by
    obtain ⟨hi, rfl⟩ := List.getElem?_eq_some_iff.1 hu
    exact List.drop_eq_getElem_cons hi
  rw [he] at hd
  generalize xs.drop (i * k) = zs at hd
  cases hd with
  | cons _ _ _ xs ys hc hk hr => rw [List.take_append, List.take_of_length_le (by omega), hk]; simpa using hc

theorem elem_mem {k : Nat} {es : List V} {xs : List Value} {B q : Nat} (r : RR w κ k es xs) (hm : Mem w κ B q xs) {i : Nat} {u : V} (hu : es[i]? = some u) :
    VR w κ (.vptr u) (.pointer (some ⟨B, q + i * k, none⟩)) :=
  .vptr _ _ _ _ (r.get hu) ((hm.drop _).take _)

theorem do_idxAddr_slice (hG : GR w κ G) (hE : ER w κ e a.tmps) (R : Rel chk κ h w) {t el : TypeId} {x y : Operand} {x' y' : Opd} {k : Nat} {ag : Bool} (ho : o.op = .indexAddr t x y)
    (hu : P.underlying t = some (.slice el)) (hk : sizeT P el = some k) (hx : opdOk x x' = true) (hy : opdOk y y' = true)
    (hv : ev G e h (.idxAddr none k ag x' y') = some (v, h')) : Done P chk o a w κ h' v := by
  simp only [ev, Option.bind_eq_bind, Option.bind_eq_some_iff] at hv
  obtain ⟨u, hu', n, hn, p, hp, hv⟩ := hv
  obtain ⟨ik, rfl⟩ := ival_some hn
  have hri := (opd_sound hG hE hy hu').int_inv
  have hru := opd_sound hG hE hx hp
  have hsz : (sizeOf el).run P w = .ok k w := by
    unfold sizeT at hk
    simp only [Option.map_eq_some_iff] at hk
    obtain ⟨i, hi, rfl⟩ := hk
    simp [sizeOf, typeInfo, hi]
  have fin : ∀ B q len cap, a.eval x = .slice (some ⟨B, q, none⟩) len cap → 0 ≤ n ∧ n < (len : Int) → (execOp a.eval o).run P w = .ok (.value (.pointer (some ⟨B, q + n.toNat * k, none⟩))) w := by
    intro B q len cap hp hb
    simp only [execOp, ho, Instr.indexAt, hri, hp, asIntOf, Sem.run_bind, Sem.run_pure, Result.andThen_ok, run_underlying hu, Sem.run_ite, if_pos hb, hsz]
    rw [add_none]
  split at hv
  · rename_i k' es tp _
    split at hv
    · rename_i hkk
      subst hkk
      split at hv
      · rename_i h0
        simp only [Option.bind_eq_some_iff, Option.some.injEq, Prod.mk.injEq] at hv
        obtain ⟨q, hq, rfl, rfl⟩ := hv
        obtain ⟨base, cap, xs, hxx, hr, hb, hc, ht⟩ := hru.slice_inv
        have hlt := (List.getElem?_eq_some_iff.1 hq).1
        rcases hb with ⟨B, q0, rfl, hm⟩ | ⟨hz, rfl⟩
        · exact .quiet R (fin _ _ _ _ hxx ⟨h0, by omega⟩) (elem_mem hr hm hq)
        · omega
      · cases hv
    · cases hv
  · rename_i b q len _
    split at hv
    · rename_i hb
      simp only [Option.some.injEq, Prod.mk.injEq] at hv
      obtain ⟨rfl, rfl⟩ := hv
      obtain ⟨hlt, cap, hc, hxx⟩ := hru.rs_inv
      exact .quiet R (fin _ _ _ _ hxx hb) (.ptr _ _ hlt)
    · cases hv
  · rename_i b len _
    split at hv
    · rename_i hb
      simp only [Option.some.injEq, Prod.mk.injEq] at hv
      obtain ⟨rfl, rfl⟩ := hv
      obtain ⟨hlt, hxx⟩ := hru.hs_inv
      have := fin _ _ _ _ hxx hb
      rw [Nat.zero_add] at this
      exact .quiet R this (.ptr _ _ hlt)
    · cases hv
  · rename_i he; cases he
  · rename_i he; cases he
  · cases hv

theorem do_idxAddr_arr (hG : GR w κ G) (hE : ER w κ e a.tmps) (R : Rel chk κ h w) {t el : TypeId} {x y : Operand} {x' y' : Opd} {k len : Nat} {ag : Bool} (ho : o.op = .indexAddr t x y)
    (hu : P.underlying t = some (.array len el)) (hk : sizeT P el = some k) (hx : opdOk x x' = true) (hy : opdOk y y' = true)
    (hv : ev G e h (.idxAddr (some len) k ag x' y') = some (v, h')) : Done P chk o a w κ h' v := by
  simp only [ev, Option.bind_eq_bind, Option.bind_eq_some_iff] at hv
  obtain ⟨u, hu', n, hn, p, hp, hv⟩ := hv
  obtain ⟨ik, rfl⟩ := ival_some hn
  have hri := (opd_sound hG hE hy hu').int_inv
  have hru := opd_sound hG hE hx hp
  have hsz : (sizeOf el).run P w = .ok k w := by
    unfold sizeT at hk
    simp only [Option.map_eq_some_iff] at hk
    obtain ⟨i, hi, rfl⟩ := hk
    simp [sizeOf, typeInfo, hi]
  have fin : ∀ B q, a.eval x = .pointer (some ⟨B, q, none⟩) → 0 ≤ n ∧ n < (len : Int) → (execOp a.eval o).run P w = .ok (.value (.pointer (some ⟨B, q + n.toNat * k, none⟩))) w := by
    intro B q hp hb
    simp only [execOp, ho, Instr.indexAt, hri, hp, asIntOf, Sem.run_bind, Sem.run_pure, Result.andThen_ok, run_underlying hu, Instr.sureAddr, Sem.run_ite, if_pos hb, hsz]
    rw [add_none]
  split at hv
  · rename_i he; cases he
  · rename_i he; cases he
  · rename_i he; cases he
  · rename_i b q he
    cases he
    split at hv
    · rename_i hb
      simp only [Option.some.injEq, Prod.mk.injEq] at hv
      obtain ⟨rfl, rfl⟩ := hv
      obtain ⟨hlt, hxx⟩ := hru.ptr_inv
      exact .quiet R (fin _ _ hxx hb) (.ptr _ _ hlt)
    · cases hv
  · rename_i cs he
    cases he
    split at hv
    · rename_i hb
      simp only [Option.bind_eq_some_iff, Option.some.injEq, Prod.mk.injEq] at hv
      obtain ⟨q, hq, rfl, rfl⟩ := hv
      obtain ⟨B, q0, xs, hxx, hc, hm⟩ := hru.vptr_inv
      cases hc with
      | agg _ _ hl => exact .quiet R (fin _ _ hxx hb) (sub_mem hl hm hq)
      | one _ _ hna _ => simp [V.isAgg] at hna
    · cases hv
  · cases hv

theorem do_idx (hG : GR w κ G) (hE : ER w κ e a.tmps) (R : Rel chk κ h w) {t el : TypeId} {x y : Operand} {x' y' : Opd} {k len : Nat} {ag : Bool} (ho : o.op = .index t x y)
    (hu : P.underlying t = some (.array len el)) (hk : sizeT P el = some k) (hs : shapeT P el = some (if ag then some k else none)) (hx : opdOk x x' = true) (hy : opdOk y y' = true)
    (hv : ev G e h (.idx len k ag x' y') = some (v, h')) : Done P chk o a w κ h' v := by
  simp only [ev, Option.bind_eq_bind, Option.bind_eq_some_iff] at hv
  obtain ⟨u, hu', n, hn, p, hp, hv⟩ := hv
  obtain ⟨ik, rfl⟩ := ival_some hn
  have hri := (opd_sound hG hE hy hu').int_inv
  have hru := opd_sound hG hE hx hp
  have hsz : (sizeOf el).run P w = .ok k w := by
    unfold sizeT at hk
    simp only [Option.map_eq_some_iff] at hk
    obtain ⟨i, hi, rfl⟩ := hk
    simp [sizeOf, typeInfo, hi]
  split at hv
  · split at hv
    · rename_i hb
      simp only [Option.bind_eq_some_iff, Option.some.injEq, Prod.mk.injEq] at hv
      obtain ⟨q, hq, rfl, rfl⟩ := hv
      obtain ⟨xs, hxx, hl⟩ := hru.agg_inv
      obtain ⟨y, hy, hr⟩ := run_part hs hl hq
      refine .quiet R ?_ hr
      simp only [execOp, ho, Instr.index, hri, hxx, asIntOf, Sem.run_bind, Sem.run_pure, Result.andThen_ok, run_underlying hu, Sem.run_ite, if_pos hb, hsz, hy]
    · cases hv
  · cases hv

theorem do_len (hG : GR w κ G) (hE : ER w κ e a.tmps) (R : Rel chk κ h w) {c : Call} {t el : TypeId} {x : Operand} {x' : Opd} (ho : o.op = .call c) (hb : c.callee = .builtin .len) (hargs : c.args = #[x])
    (ht : c.argTypes[0]? = some t) (hu : P.underlying t = some (.slice el)) (hx : opdOk x x' = true)
    (hv : ev G e h (.len x') = some (v, h')) : Done P chk o a w κ h' v := by
  simp only [ev, Option.bind_eq_bind, Option.bind_eq_some_iff] at hv
  obtain ⟨u, hu', hv⟩ := hv
  have hru := opd_sound hG hE hx hu'
  have fin : ∀ (b : Option Addr) (n cap : Nat), a.eval x = .slice b n cap → (execOp a.eval o).run P w = .ok (.value (.int .i64 n)) w := by
    intro b n cap hxx
    simp [execOp, ho, resolve, hb, hargs, invoke, builtin, Builtin.len_, ht, hxx, run_underlying hu, goInt]
  split at hv
  · simp only [Option.some.injEq, Prod.mk.injEq] at hv
    obtain ⟨rfl, rfl⟩ := hv
    obtain ⟨base, cap, xs, hxx, _⟩ := hru.slice_inv
    exact .quiet R (fin _ _ _ hxx) (.int _ _)
  · simp only [Option.some.injEq, Prod.mk.injEq] at hv
    obtain ⟨rfl, rfl⟩ := hv
    obtain ⟨_, cap, _, hxx⟩ := hru.rs_inv
    exact .quiet R (fin _ _ _ hxx) (.int _ _)
  · simp only [Option.some.injEq, Prod.mk.injEq] at hv
    obtain ⟨rfl, rfl⟩ := hv
    obtain ⟨_, hxx⟩ := hru.hs_inv
    exact .quiet R (fin _ _ _ hxx) (.int _ _)
  · cases hv

theorem MR.length : ∀ {es : List (V × V)} {ms : List MapEntry}, MR w κ es ms → ms.length = es.length
  | _, _, .nil => rfl
  | _, _, .cons _ _ _ _ _ _ _ hr => by simp [hr.length]

theorem do_mlen (hG : GR w κ G) (hE : ER w κ e a.tmps) (R : Rel chk κ h w) {c : Call} {t kt et : TypeId} {x : Operand} {x' : Opd} (ho : o.op = .call c) (hb : c.callee = .builtin .len) (hargs : c.args = #[x])
    (ht : c.argTypes[0]? = some t) (hu : P.underlying t = some (.map kt et)) (hx : opdOk x x' = true)
    (hv : ev G e h (.mlen x') = some (v, h')) : Done P chk o a w κ h' v := by
  simp only [ev, Option.bind_eq_bind, Option.bind_eq_some_iff] at hv
  obtain ⟨u, hu', hv⟩ := hv
  have hru := opd_sound hG hE hx hu'
  split at hv
  · simp only [Option.some.injEq, Prod.mk.injEq] at hv
    obtain ⟨rfl, rfl⟩ := hv
    refine .quiet R (x := .int .i64 0) ?_ (.int _ _)
    simp [execOp, ho, resolve, hb, hargs, invoke, builtin, Builtin.len_, ht, hru.nilm_inv, run_underlying hu, goInt]
  · split at hv
    · rename_i es hg
      simp only [Option.some.injEq, Prod.mk.injEq] at hv
      obtain ⟨rfl, rfl⟩ := hv
      obtain ⟨_, hxx⟩ := hru.map_inv
      obtain ⟨ms, cl, hB, hm⟩ := (R.obj _ _ hg).2
      refine .quiet R (x := .int .i64 es.length) ?_ (.int _ _)
      simp [execOp, ho, resolve, hb, hargs, invoke, builtin, Builtin.len_, ht, hxx, run_underlying hu, goInt, getObj, Sem.run, hB, hm.length]
    · cases hv
  · cases hv

theorem do_lenc (R : Rel chk κ h w) {c : Call} {t el : TypeId} {n : Nat} (ho : o.op = .call c) (hb : c.callee = .builtin .len) (hargs : 1 ≤ c.args.size)
    (ht : c.argTypes[0]? = some t) (hu : P.underlying t = some (.array n el)) (hv : ev G e h (.lenc n) = some (v, h')) : Done P chk o a w κ h' v := by
  simp only [ev, Option.some.injEq, Prod.mk.injEq] at hv
  obtain ⟨rfl, rfl⟩ := hv
  refine .quiet R (x := .int .i64 n) ?_ (.int _ _)
  obtain ⟨x, hx⟩ : ∃ x, (c.args.map a.eval)[0]? = some x := by
    refine ⟨(c.args.map a.eval)[0]'(by simp; omega), ?_⟩
    exact Array.getElem?_eq_getElem _
  simp only [execOp, ho, resolve, hb, Sem.run_bind, Sem.run_pure, Result.andThen_ok, invoke, builtin, Builtin.len_, ht, hx, run_underlying hu]
  cases x <;> rfl
end
end Go.Vi
