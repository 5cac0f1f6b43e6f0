/- Each operation of the plain reading against the model's. No statement of a claim stands here. -/
import Derived.Laws.Cells
import Derived.Laws.CopyRow
import Derived.Laws.StructEq
import Derived.DeepKeys3
import Derived.Test.YtngcbeckobfaaaaDoorVr
import Derived.Test.YtngcbeckobfaaaaDoorVk
set_option linter.unusedSimpArgs false
set_option linter.unusedVariables false
namespace Go.Vi
open Go

section
variable {P : Program} {w : World} {κ : K}

theorem valOk_sound : ∀ {x : Value} {v : V}, valOk x v = true → VR w κ v x := by
  intro x v h
  unfold valOk at h
  split at h
  · exact .undef _
  · simp only [beq_iff_eq] at h; subst h; exact .bool _
  · simp only [Bool.and_eq_true, decide_eq_true_eq] at h; obtain ⟨rfl, rfl⟩ := h; exact .int _ _
  · exact .nilp
  · exact .nilm
  · exact .nilf
  · exact .slice _ [] .nil none 0 [] (.nil _) (.inr ⟨rfl, rfl⟩) (Nat.le_refl _) rfl
  · rename_i f a c g
    simp only [Bool.and_eq_true, Nat.beq_eq] at h
    obtain ⟨⟨rfl, ha⟩, hc⟩ := h
    have ea : a = ⟨[]⟩ := Array.eq_empty_of_size_eq_zero ha
    have ec : c = ⟨[]⟩ := Array.eq_empty_of_size_eq_zero hc
    rw [ea, ec]
    exact .func _ [] [] [] [] .nil .nil
  · cases h

theorem valsOk_sound : ∀ {xs : List Value} {vs : List V}, valsOk xs vs = true → VRL w κ vs xs
  | [], [], _ => .nil
  | x :: xs, v :: vs, h => by
    simp only [valsOk, Bool.and_eq_true] at h
    exact .cons _ _ _ _ (valOk_sound h.1) (valsOk_sound h.2)
  | [], _ :: _, h => by simp [valsOk] at h
  | _ :: _, [], h => by simp [valsOk] at h

theorem VRL.length : ∀ {vs : List V} {xs : List Value}, VRL w κ vs xs → vs.length = xs.length
  | _, _, .nil => rfl
  | _, _, .cons _ _ _ _ _ hr => by simp [hr.length]
theorem VRL.get : ∀ {vs : List V} {xs : List Value}, VRL w κ vs xs → ∀ {i : Nat} {v : V}, vs[i]? = some v → ∃ x, xs[i]? = some x ∧ VR w κ v x
  | _, _, .nil, i, v, h => by simp at h
  | _, _, .cons _ _ x _ hv hr, i, v, h => by
    cases i with
    | zero => simp at h; subst h; exact ⟨x, rfl, hv⟩
    | succ i => simpa using hr.get (by simpa using h)
theorem VRL.append : ∀ {vs : List V} {xs : List Value} {us : List V} {ys : List Value}, VRL w κ vs xs → VRL w κ us ys → VRL w κ (vs ++ us) (xs ++ ys)
  | _, _, _, _, .nil, g => g
  | _, _, _, _, .cons _ _ _ _ hv hr, g => .cons _ _ _ _ hv (hr.append g)
theorem VRL.drop : ∀ {vs : List V} {xs : List Value} (n : Nat), VRL w κ vs xs → VRL w κ (vs.drop n) (xs.drop n)
  | _, _, 0, h => by simpa using h
  | _, _, _ + 1, .nil => by simpa using .nil
  | _, _, n + 1, .cons _ _ _ _ _ hr => by simpa using hr.drop n
theorem VRL.take : ∀ {vs : List V} {xs : List Value} (n : Nat), VRL w κ vs xs → VRL w κ (vs.take n) (xs.take n)
  | _, _, 0, h => by simpa using .nil
  | _, _, _ + 1, .nil => by simpa using .nil
  | _, _, n + 1, .cons _ _ _ _ hv hr => by simpa using .cons _ _ _ _ hv (hr.take n)

theorem VR.cells {v : V} {x : Value} (h : VR w κ v x) (hv : v.cells ≠ [] ∨ v.isAgg = true) : VRL w κ v.cells x.cells.toList := by
  cases h
  case undef => simp [V.cells, V.isAgg] at hv
  case agg cs xs hl => exact hl
  all_goals exact .cons _ _ _ _ (by constructor <;> assumption) .nil

theorem VR.cr {v : V} {x : Value} (h : VR w κ v x) (hv : v ≠ .undef) : CR w κ v x.cells.toList := by
  cases h
  case undef => exact absurd rfl hv
  case agg cs xs hl => exact .agg _ _ hl
  all_goals exact .one _ _ rfl (by constructor <;> assumption)

theorem elemOk_sound {x : Value} {v : V} (h : elemOk x v = true) : VR w κ v x ∧ CR w κ v x.cells.toList := by
  unfold elemOk at h
  split at h
  · exact ⟨.agg _ _ (valsOk_sound h), .agg _ _ (valsOk_sound h)⟩
  · cases h
  · cases h
  · cases h
  · rename_i h1 h2 h3 h4
    have hv := valOk_sound (w := w) (κ := κ) h
    refine ⟨hv, ?_⟩
    have hx : x.cells.toList = [x] := by
      cases x <;> first | rfl | (exact absurd rfl (h1 _))
    rw [hx]
    exact .one _ _ (by cases v <;> first | rfl | (exact absurd rfl (h3 _))) hv

def GR (w : World) (κ : K) (G : Globs) : Prop := ∀ g v, alook g G = some v → ∃ xs, CR w κ v xs ∧ Mem w κ g 0 xs
theorem GR.mono {κ' : K} {w' : World} (h : Ext κ w κ' w') {G : Globs} (g : GR w κ G) : GR w' κ' G :=
  fun i v hv => let ⟨xs, a, b⟩ := g i v hv; ⟨xs, a.mono h, b.mono h⟩

variable {G : Globs} {e : Env} {a : Act}

theorem opd_sound (hG : GR w κ G) (hE : ER w κ e a.tmps) {x : Operand} {y : Opd} (h : opdOk x y = true) {v : V} (hv : y.val G e = some v) : VR w κ v (a.eval x) := by
  unfold opdOk at h
  split at h
  · rename_i t u
    rw [Nat.beq_eq] at h; subst h
    exact hE _ _ hv
  · simp only [Opd.val, Option.some.injEq] at hv
    subst hv
    exact valOk_sound h
  · rw [Nat.beq_eq] at h; subst h
    simp only [Opd.val, Option.some.injEq] at hv
    subst hv
    exact .func _ [] [] [] [] .nil .nil
  · rw [Nat.beq_eq] at h; subst h
    simp only [Opd.val, Option.map_eq_some_iff] at hv
    obtain ⟨u, hu, rfl⟩ := hv
    obtain ⟨xs, hc, hm⟩ := hG _ _ hu
    exact .vptr _ _ _ _ hc hm
  · cases h

theorem vals_sound (hG : GR w κ G) (hE : ER w κ e a.tmps) : ∀ {xs : List Operand} {ys : List Opd}, opdsOk xs ys = true → ∀ {vs : List V}, vals G e ys = some vs → VRL w κ vs (xs.map a.eval)
  | [], [], _, vs, hv => by simp [vals] at hv; subst hv; exact .nil
  | x :: xs, y :: ys, h, vs, hv => by
    simp only [opdsOk, Bool.and_eq_true] at h
    simp only [vals, Option.bind_eq_bind, Option.bind_eq_some_iff, Option.some.injEq] at hv
    obtain ⟨v, h1, vs', h2, rfl⟩ := hv
    exact .cons _ _ _ _ (opd_sound hG hE h.1 h1) (vals_sound hG hE h.2 h2)
  | [], _ :: _, h, _, _ => by simp [opdsOk] at h
  | _ :: _, [], h, _, _ => by simp [opdsOk] at h

/-! ## what a value's partner is -/
theorem VR.bool_inv {b : Bool} {x : Value} (h : VR w κ (.bool b) x) : x = .bool b := by cases h; rfl
theorem VR.int_inv {k : IntKind} {n : Int} {x : Value} (h : VR w κ (.int k n) x) : x = .int k n := by cases h; rfl
theorem VR.ptr_inv {b o : Nat} {x : Value} (h : VR w κ (.ptr b o) x) : b < κ.n ∧ x = .pointer (some ⟨κ.mu b, o, none⟩) := by cases h; exact ⟨by assumption, rfl⟩
theorem VR.vptr_inv {v : V} {x : Value} (h : VR w κ (.vptr v) x) : ∃ B o xs, x = .pointer (some ⟨B, o, none⟩) ∧ CR w κ v xs ∧ Mem w κ B o xs := by cases h; exact ⟨_, _, _, rfl, by assumption, by assumption⟩
theorem VR.slice_inv {k : Nat} {es : List V} {t : Tip} {x : Value} (h : VR w κ (.slice k es t) x) :
    ∃ base cap xs, x = .slice base es.length cap ∧ RR w κ k es xs ∧ Based w κ base cap es.length xs ∧ es.length ≤ cap ∧ TipOk κ es.length t base cap := by
  cases h; exact ⟨_, _, _, rfl, by assumption, by assumption, by assumption, by assumption⟩
theorem VR.hs_inv {b l : Nat} {x : Value} (h : VR w κ (.hs b l) x) : b < κ.n ∧ x = .slice (some ⟨κ.mu b, 0, none⟩) l l := by cases h; exact ⟨by assumption, rfl⟩
theorem VR.rs_inv {b o l : Nat} {x : Value} (h : VR w κ (.rs b o l) x) : b < κ.n ∧ ∃ cap, l ≤ cap ∧ x = .slice (some ⟨κ.mu b, o, none⟩) l cap := by cases h; exact ⟨by assumption, _, by assumption, rfl⟩
theorem VR.map_inv {b : Nat} {x : Value} (h : VR w κ (.map b) x) : b < κ.n ∧ x = .map (some (κ.mu b)) := by cases h; exact ⟨by assumption, rfl⟩
theorem VR.nilm_inv {x : Value} (h : VR w κ .nilm x) : x = .map none := by cases h; rfl
theorem VR.func_inv {f : Nat} {a c : List V} {x : Value} (h : VR w κ (.func f a c) x) : ∃ xa xc, x = .func (.func f) ⟨xa⟩ ⟨xc⟩ ∧ VRL w κ a xa ∧ VRL w κ c xc := by cases h; exact ⟨_, _, rfl, by assumption, by assumption⟩
theorem VR.yield_inv {l : Nat} {x : Value} (h : VR w κ (.yield l) x) : l < κ.n ∧ x = .func (.yield (κ.mu l)) #[] #[] := by cases h; exact ⟨by assumption, rfl⟩
theorem VR.agg_inv {cs : List V} {x : Value} (h : VR w κ (.agg cs) x) : ∃ xs, x = .agg ⟨xs⟩ ∧ VRL w κ cs xs := by cases h; exact ⟨_, rfl, by assumption⟩
theorem VR.tuple_inv {cs : List V} {x : Value} (h : VR w κ (.tuple cs) x) : ∃ xs, x = .tuple ⟨xs⟩ ∧ VRL w κ cs xs := by cases h; exact ⟨_, rfl, by assumption⟩

/-! ## reading memory -/

theorem add_none (B o j : Nat) : (⟨B, o, none⟩ : Addr).add j = ⟨B, o + j, none⟩ := by
  unfold Addr.add; split <;> simp_all

theorem run_isAgg_some {t : TypeId} {n : Nat} (h : shapeT P t = some (some n)) : (isAgg t).run P w = .ok true w ∧ (sizeOf t).run P w = .ok n w := by
  unfold shapeT at h
  split at h
  · rename_i hu hi; simp only [Option.some.injEq] at h; subst h; simp [isAgg, run_underlying hu, sizeOf, typeInfo, hi]
  · rename_i hu hi; simp only [Option.some.injEq] at h; subst h; simp [isAgg, run_underlying hu, sizeOf, typeInfo, hi]
  · cases h
  · cases h
theorem run_isAgg_none {t : TypeId} (h : shapeT P t = some none) : (isAgg t).run P w = .ok false w := by
  unfold shapeT at h
  cases hu : P.underlying t with
  | none => simp [hu] at h
  | some d =>
    rw [hu] at h
    cases hi : P.info? t with
    | none => cases d <;> simp [hi] at h
    | some i =>
      rw [hi] at h
      cases d <;> first
        | (simp at h; done)
        | simp [isAgg, run_underlying hu]

theorem load_list {t : TypeId} {B o n : Nat} {ys : List Value} (hs : shapeT P t = some (some n)) (hn : ys.length = n)
    (h : ∀ i x, ys[i]? = some x → w.cell? ⟨B, o + i, none⟩ = some x) : (loadVar t ⟨B, o, none⟩).run P w = .ok (.agg ⟨ys⟩) w := by
  obtain ⟨h1, h2⟩ := run_isAgg_some (P := P) (w := w) hs
  have := run_loadCells_list (P := P) w ⟨B, o, none⟩ ys (fun j v hv => by rw [add_none]; exact h j v hv)
  rw [hn] at this
  simp [loadVar, h1, h2, this]
theorem load_one {t : TypeId} {B o : Nat} {y : Value} (hs : shapeT P t = some none) (h : w.cell? ⟨B, o, none⟩ = some y) : (loadVar t ⟨B, o, none⟩).run P w = .ok y w := by
  simp [loadVar, run_isAgg_none (P := P) (w := w) hs, h]

theorem cell_of {B o : Nat} {xs : List Value} {t : TypeId} {fr : Nat × Nat} (h : w.heap[B]? = some (.cells ⟨xs⟩ t fr)) : w.cell? ⟨B, o, none⟩ = xs[o]? := by
  simp [World.cell?, h]

theorem sub_none {off : Nat} {cs : List V} {u : V} (h : sub off none cs = some u) : cs[off]? = some u ∧ u.isAgg = false := by
  simp only [sub] at h
  split at h
  · split at h
    · cases h
    · cases h; exact ⟨by assumption, by simp_all⟩
  · cases h

/-- reading a part of a block -/
theorem load_block {t : TypeId} {B o : Nat} {xs : List Value} {cs : List V} {ty : TypeId} {fr : Nat × Nat} {s : Option Nat} {v : V}
    (hB : w.heap[B]? = some (.cells ⟨xs⟩ ty fr)) (hl : VRL w κ cs xs) (hs : shapeT P t = some s) (hv : sub o s cs = some v) :
    ∃ y, (loadVar t ⟨B, o, none⟩).run P w = .ok y w ∧ VR w κ v y := by
  cases s with
  | none =>
    obtain ⟨y, hy, hr⟩ := hl.get (sub_none hv).1
    exact ⟨y, load_one hs ((cell_of hB).trans hy), hr⟩
  | some n =>
    simp only [sub] at hv
    split at hv
    · rename_i hle
      cases hv
      refine ⟨_, load_list (ys := (xs.drop o).take n) hs ?_ ?_, .agg _ _ ((hl.drop o).take n)⟩
      · have := hl.length; simp; omega
      · intro i x hx
        rw [cell_of hB]
        rw [List.getElem?_take] at hx
        split at hx
        · rwa [List.getElem?_drop] at hx
        · cases hx
    · cases hv

/-- reading memory that is never written -/
theorem load_mem {t : TypeId} {B o : Nat} {xs : List Value} {s : Option Nat} {v : V} (hc : CR w κ v xs) (hm : Mem w κ B o xs) (hs : shapeT P t = some s)
    (hv : match s, v with | none, .agg _ => False | none, _ => True | some n, .agg cs => cs.length = n | _, _ => False) :
    ∃ y, (loadVar t ⟨B, o, none⟩).run P w = .ok y w ∧ VR w κ v y := by
  cases hc with
  | agg cs xs hl =>
    cases s with
    | none => exact hv.elim
    | some n =>
      refine ⟨_, load_list hs (by rw [← hl.length]; exact hv) (fun i x hx => (hm i x hx).2.1), .agg _ _ hl⟩
  | one v x hn hx =>
    cases s with
    | none => exact ⟨x, load_one hs (by simpa using (hm 0 x rfl).2.1), hx⟩
    | some n => cases v <;> first | (exact hv.elim) | (simp [V.isAgg] at hn)
end
end Go.Vi
