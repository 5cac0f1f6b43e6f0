/- Making and cutting slices: the plain reading against the model's. No statement of a claim stands here. -/
import Derived.Test.YtngcbeckobfaaaaDoorVy
set_option linter.unusedSimpArgs false
set_option linter.unusedVariables false
namespace Go.Vi
open Go

section
variable {P : Program} {chk : Nat → Code → VCode → Bool} {w w' : World} {κ : K} {h h' : H} {G : Globs} {e : Env} {a : Act} {o : Oper} {v : V}

theorem range_rows (zs : List Value) (k : Nat) (hk : zs.length = k) : ∀ n, (List.range (n * k)).map (fun i => (⟨zs⟩ : Array Value)[i % k]!) = (List.replicate n zs).flatten
  | 0 => by simp
  | n + 1 => by
    rw [Nat.succ_mul, List.range_add, List.map_append, range_rows zs k hk n, List.replicate_succ', List.flatten_append, List.map_map]
    congr 1
    simp only [List.flatten_cons, List.flatten_nil, List.append_nil]
    apply List.ext_getElem?
    intro i
    by_cases hi : i < k
    · have h1 : (n * k + i) % k = i := by rw [Nat.add_comm, Nat.add_mul_mod_self_right, Nat.mod_eq_of_lt hi]
      simp [hi, h1, hk]
    · rw [List.getElem?_eq_none (by simpa using hi), List.getElem?_eq_none (by omega)]

theorem VRL.rows {zs : List V} {xs : List Value} (hz : VRL w κ zs xs) : ∀ n, VRL w κ (List.replicate n zs).flatten (List.replicate n xs).flatten
  | 0 => by simpa using .nil
  | n + 1 => by simp only [List.replicate_succ, List.flatten_cons]; exact hz.append (VRL.rows hz n)

theorem wrap_small {n : Int} (h0 : 0 ≤ n) (h1 : n ≤ 16777216) : IntKind.i64.wrap n = n := by
  have e1 : n % (2 ^ 64 : Int) = n := Int.emod_eq_of_lt h0 (by omega)
  unfold IntKind.wrap
  simp only [IntKind.bits, IntKind.signed, e1]
  rw [if_neg]
  simp only [Bool.true_and, decide_eq_true_eq]
  omega
theorem lim_eq : ((lim : Nat) : Int) = 16777216 := by decide

theorem run_makeSlice {t el : TypeId} {k : Nat} {i : TypeInfo} {z : Value} (hu : P.underlying t = some (.slice el)) (hi : P.info? el = some i) (hs : i.size = k) (hk : 1 ≤ k) (hb : i.bytes ≤ 4096) (hz : i.zero = some z) (hzs : z.cells.size = k)
    {l c : Int} {j1 j2 : IntKind} (hl : 0 ≤ l) (hlc : l ≤ c) (hc : c ≤ lim) :
    (Instr.makeSlice t (.int j1 l) (.int j2 c)).run P w = .ok (.slice (some ⟨w.heap.size, 0, none⟩) l.toNat c.toNat) (push w (.cells ⟨(List.replicate c.toNat z.cells.toList).flatten⟩ el)) := by
  rw [lim_eq] at hc
  have hc' : c ≤ 16777216 := hc
  have w1 : IntKind.i64.wrap l = l := wrap_small hl (by omega)
  have w2 : IntKind.i64.wrap c = c := wrap_small (by omega) hc
  have hbb : (i.bytes : Int) ≤ 4096 := by omega
  have hno : ¬ (c < 0 ∨ (i.bytes : Int) * c > 281474976710656) := by
    have h1 : (i.bytes : Int) * c ≤ 4096 * 16777216 := Int.mul_le_mul hbb hc' (by omega) (by omega)
    omega
  have e1 : (Array.range (c.toNat * k)).map (fun x => z.cells[x % z.cells.size]!) = ⟨(List.replicate c.toNat z.cells.toList).flatten⟩ := by
    apply Array.ext'
    have := range_rows z.cells.toList k (by simpa using hzs) c.toNat
    rw [← this, Array.toList_map, Array.toList_range, hzs]
  have hcl : ¬ (l < 0 ∨ l > c) := by omega
  by_cases h0 : c.toNat * k = 0
  · have hc0 : c = 0 := by
      rcases Nat.mul_eq_zero.1 h0 with h | h <;> omega
    subst hc0
    have hl0 : l = 0 := by omega
    subst hl0
    simp [Instr.makeSlice, run_underlying hu, asInt, asIntOf, typeInfo, hi, sizeOf, newRow, push, w1]
    have e2 : ∀ f : Nat → Value, (Array.range 0).map f = ⟨[]⟩ := fun f => Array.eq_empty_of_size_eq_zero (by simp)
    rw [e2]
  · have hc0 : ¬ (c.toNat = 0 ∨ k = 0) := fun hh => h0 (Nat.mul_eq_zero.2 hh)
    simp only [Instr.makeSlice, Sem.run_bind, run_underlying hu, Result.andThen_ok, asInt, asIntOf, Sem.run_pure, typeInfo, run_program, hi, w1, w2]
    simp only [Bool.or_eq_true, decide_eq_true_eq, Sem.run_ite, Sem.run_bind, run_askRoom, Result.andThen_ok, sizeOf, typeInfo, run_program, hi, Sem.run_pure, hs, if_neg h0, zeroValue, hz, e1, newRow, run_newObj]
    rw [if_neg (by omega)]
    rfl


theorem do_mkarr (hG : GR w κ G) (hE : ER w κ e a.tmps) (R : Rel chk κ h w) {t el : TypeId} {l c : Operand} {l' : Opd} {k : Nat} {z : V} {i : TypeInfo} {zv : Value} (ho : o.op = .makeSlice t l c) (hu : P.underlying t = some (.slice el)) (hi : P.info? el = some i) (hs : i.size = k) (hk : 1 ≤ k) (hb : i.bytes ≤ 4096) (hz : i.zero = some zv) (hzs : zv.cells.size = k) (hzc : elemOk zv z = true)
    (h1 : opdOk l l' = true) (h2 : opdOk c l' = true) (hv : ev G e h (.mkarr k z l') = some (v, h')) : Done P chk o a w κ h' v := by
  simp only [ev, Option.bind_eq_bind, Option.bind_eq_some_iff] at hv
  obtain ⟨u, hu', n, hn, hv⟩ := hv
  obtain ⟨j, rfl⟩ := ival_some hn
  split at hv
  · rename_i hb'
    split at hv
    · rename_i hzl
      simp only [Option.some.injEq, Prod.mk.injEq] at hv
      obtain ⟨rfl, rfl⟩ := hv
      have e1 := (opd_sound hG hE h1 hu').int_inv
      have e2 := (opd_sound hG hE h2 hu').int_inv
      have hrun := run_makeSlice (w := w) hu hi hs hk hb hz hzs (j1 := j) (j2 := j) hb'.1 (Int.le_refl n) hb'.2
      have hzr : VRL w κ z.cells zv.cells.toList := by
        obtain ⟨a1, a2⟩ := elemOk_sound (w := w) (κ := κ) hzc
        exact a1.cells (.inl (by intro h0; rw [h0] at hzl; simp at hzl; omega))
      obtain ⟨X, R'⟩ := R.push_place (.cells ⟨(List.replicate n.toNat zv.cells.toList).flatten⟩ el) (.cells (List.replicate n.toNat z.cells).flatten) rfl (by intro _ _ h; cases h)
        (fun X => ⟨_, el, by simp only [K.place, if_true]; exact push_new w _, (hzr.rows n.toNat).mono X⟩)
      refine ⟨_, _, .slice (some ⟨w.heap.size, 0, none⟩) n.toNat n.toNat, .inl ?_, X, R', ?_⟩
      · simp [execOp, ho, e1, e2, hrun]
      · have := VR.hs (w := push w (.cells ⟨(List.replicate n.toNat zv.cells.toList).flatten⟩ el)) (κ := κ.place w.heap.size) h.next n.toNat (by simp [K.place, R.n])
        simpa [K.place, R.n] using this
    · cases hv
  · cases hv

theorem do_slca (hG : GR w κ G) (hE : ER w κ e a.tmps) (R : Rel chk κ h w) {t el : TypeId} {x : Operand} {x' : Opd} {hi : Option Operand} {hi' : Option Opd} {n k : Nat} (ho : o.op = .slice t x none hi none)
    (hu : P.underlying t = some (.array n el)) (hk : sizeT P el = some k) (hx : opdOk x x' = true) (hh : optOk hi hi' = true) (hv : ev G e h (.slca n k x' hi') = some (v, h')) : Done P chk o a w κ h' v := by
  simp only [ev, Option.bind_eq_bind, Option.bind_eq_some_iff] at hv
  obtain ⟨u, hu', hv⟩ := hv
  have hru := opd_sound hG hE hx hu'
  split at hv
  · rename_i b q
    obtain ⟨hb, hxx⟩ := hru.ptr_inv
    have fin : ∀ m : Nat, m ≤ n → (Instr.sliceBounds false n n none (hi.map a.eval) none).run P w = .ok (0, m, n) w → Done P chk o a w κ h (.rs b q m) := by
      intro m hm hbd
      refine .quiet R (x := .slice (some ⟨κ.mu b, q, none⟩) m n) ?_ (.rs _ _ _ _ hb hm)
      simp only [execOp, ho, Instr.sliceAt, Sem.run_bind, run_underlying hu, Result.andThen_ok, hxx, Instr.sureAddr, Sem.run_pure, Option.map_none, hbd, run_sizeOf_of hk]
      by_cases hn0 : n = 0
      · simp [hn0]
      · rw [if_neg hn0, add_none]; simp
    cases hi with
    | none =>
      cases hi' with
      | none =>
        simp only [Option.bind_some, Int.natCast_nonneg, true_and] at hv
        rw [if_pos (Int.le_refl _)] at hv
        simp only [Option.some.injEq, Prod.mk.injEq] at hv
        obtain ⟨rfl, rfl⟩ := hv
        exact fin n (Nat.le_refl _) (by simp [Instr.sliceBounds])
      | some y => simp [optOk] at hh
    | some y =>
      cases hi' with
      | none => simp [optOk] at hh
      | some y' =>
        simp only [optOk] at hh
        simp only [Option.bind_eq_some_iff] at hv
        obtain ⟨p, hp, m, hm, hv⟩ := hv
        obtain ⟨j, rfl⟩ := ival_some hm
        have hi := (opd_sound hG hE hh hp).int_inv
        split at hv
        · rename_i hb'
          simp only [Option.some.injEq, Prod.mk.injEq] at hv
          obtain ⟨rfl, rfl⟩ := hv
          refine fin m.toNat (by omega) ?_
          simp [Instr.sliceBounds, Instr.sliceBound, hi, asIntOf, hb'.1, hb'.2]
        · cases hv
  · cases hv
end
end Go.Vi
