/- Each operation of the plain reading against the model's, one by one (second part). No statement of a claim stands here. -/
import Derived.Test.YtngcbeckobfaaaaDoorVp
set_option linter.unusedSimpArgs false
set_option linter.unusedVariables false
namespace Go.Vi
open Go

section
variable {P : Program} {chk : Nat → Code → VCode → Bool} {w : World} {κ : K} {h h' : H} {G : Globs} {e : Env} {a : Act} {o : Oper} {v : V}

theorem one_of_cell1 {u : V} {x : Value} (h : VR w κ u x) (hc : u.cell1 = true) : x.oneCell' = true := by
  cases h <;> first | rfl | (simp [V.cell1] at hc)
theorem ones_of_cell1 : ∀ {us : List V} {xs : List Value}, VRL w κ us xs → us.all V.cell1 = true → ∀ x ∈ xs, x.oneCell' = true
  | _, _, .nil, _, x, hx => by cases hx
  | _, _, .cons _ _ _ _ hv hr, hc, x, hx => by
    simp only [List.all_cons, Bool.and_eq_true] at hc
    rcases List.mem_cons.1 hx with rfl | hx
    · exact one_of_cell1 hv hc.1
    · exact ones_of_cell1 hr hc.2 x hx

theorem setRow_other (w : World) (g : Nat) (cs : Array Value) {b : Nat} (hb : b ≠ g) : (w.setRow g cs).heap[b]? = w.heap[b]? := by
  simp only [World.setRow, Array.getElem?_modify, if_neg (fun e : g = b => hb e.symm)]
theorem setRow_size (w : World) (g : Nat) (cs : Array Value) : (w.setRow g cs).heap.size = w.heap.size := by simp [World.setRow]

theorem cells_home {b : Nat} {cs : List V} : home κ b (.cells cs) = κ.mu b := rfl

/-- a block of cells gets other cells -/
theorem Rel.setCells (R : Rel chk κ h w) {b : Nat} {cs cs' : List V} {xs ys : List Value} {t : TypeId} (hg : h.get b = some (.cells cs)) (hB : w.heap[κ.mu b]? = some (.cells ⟨xs⟩ t (0, 0)))
    (hl : VRL w κ cs' ys) : Ext κ w κ (w.setRow (κ.mu b) ⟨ys⟩) ∧ Rel chk κ (h.set b (.cells cs')) (w.setRow (κ.mu b) ⟨ys⟩) := by
  refine R.write hg rfl rfl (fun B off hf => hf) (fun c hc => setRow_other w _ _ hc) (setRow_size w _ _) ?_ ?_
  · intro B off hs
    have hne : B ≠ κ.mu b := fun e => R.sdis b _ hg B off hs e
    exact cell_of_heap (setRow_other w _ _ hne) off
  · intro X
    exact ⟨ys, t, setRow_heap w _ _ _ _ _ hB, hl.mono X⟩

theorem VRL.setRange {cs us : List V} {xs ys : List Value} (h1 : VRL w κ cs xs) (h2 : VRL w κ us ys) (q : Nat) : VRL w κ (setRange cs q us) (xs.take q ++ ys ++ xs.drop (q + ys.length)) := by
  unfold Vi.setRange
  rw [← h2.length]
  exact ((h1.take q).append h2).append (h1.drop _)

theorem do_store (hG : GR w κ G) (hE : ER w κ e a.tmps) (R : Rel chk κ h w) {t : TypeId} {x y : Operand} {x' y' : Opd} {n : Nat} (ho : o.op = .store t x y) (hs : sizeT P t = some n) (hn1 : 1 ≤ n)
    (hx : opdOk x x' = true) (hy : opdOk y y' = true) (hv : ev G e h (.store n x' y') = some (v, h')) : Done P chk o a w κ h' v := by
  simp only [ev, Option.bind_eq_bind, Option.bind_eq_some_iff] at hv
  obtain ⟨u, hu, p, hp, hv⟩ := hv
  have hru := opd_sound hG hE hy hu
  have hrp := opd_sound hG hE hx hp
  split at hv
  · rename_i b q
    obtain ⟨hb, hxx⟩ := hrp.ptr_inv
    split at hv
    · rename_i cs hg
      split at hv
      · rename_i hn
        split at hv
        · rename_i hle
          simp only [Option.some.injEq, Prod.mk.injEq] at hv
          obtain ⟨rfl, rfl⟩ := hv
          obtain ⟨xs, ty, hB, hl⟩ := (R.obj _ _ hg).2
          have hc : VRL w κ u.cells (a.eval y).cells.toList := hru.cells (.inl (by intro h0; rw [h0] at hn; simp at hn; omega))
          have hlen : (a.eval y).cells.toList.length = n := by rw [← hc.length]; exact hn.1
          have hxl := hl.length
          have hst := run_storeCells_at P (κ.mu b) q ty (a.eval y).cells.toList 0 ⟨xs⟩ w hB (by simp at hlen ⊢; omega) (ones_of_cell1 hc hn.2)
          obtain ⟨X, R'⟩ := R.setCells hg hB (hl.setRange hc q)
          refine ⟨κ, _, undef, .inr ⟨?_, rfl⟩, X, R', .undef _⟩
          have hsz : (sizeOf t).run P w = .ok n w := by
            unfold sizeT at hs
            simp only [Option.map_eq_some_iff] at hs
            obtain ⟨i, hi, rfl⟩ := hs
            simp [sizeOf, typeInfo, hi]
          have hne : ¬ (a.eval y).cells.size ≠ n := by simpa using hlen
          simp only [execOp, ho, Instr.storeAt, hxx, Instr.sureAddr, Sem.run_bind, Sem.run_pure, Result.andThen_ok, storeVar, hsz, Sem.run_ite, if_neg hne]
          simp only [Nat.add_zero] at hst
          simp [hst]
        · cases hv
      · cases hv
    · cases hv
  · cases hv

theorem do_bin (hG : GR w κ G) (hE : ER w κ e a.tmps) (R : Rel chk κ h w) {op : BinOp} {t t' : TypeId} {x y : Operand} {x' y' : Opd} (ho : o.op = .binOp op t x y t')
    (hx : opdOk x x' = true) (hy : opdOk y y' = true) (hv : ev G e h (.bin op x' y') = some (v, h')) : Done P chk o a w κ h' v := by
  simp only [ev, Option.bind_eq_bind, Option.bind_eq_some_iff, Option.some.injEq, Prod.mk.injEq] at hv
  obtain ⟨u, hu, p, hp, r, hr, rfl, rfl⟩ := hv
  have hru := opd_sound hG hE hx hu
  have hrp := opd_sound hG hE hy hp
  unfold arith at hr
  split at hr
  · rename_i k m k' m'
    have e1 := hru.int_inv
    have e2 := hrp.int_inv
    have hgd : (eqGuard op t x y (.int k m) (.int k' m')).run P w = .ok () w := by
      unfold eqGuard
      split <;> simp
    have fin : ∀ z : Value, (binOp op t (.int k m) (.int k' m')).run P w = .ok z w → VR w κ r z → Done P chk o a w κ h r := by
      intro z hz hrz
      refine .quiet R ?_ hrz
      simp [execOp, ho, e1, e2, hgd, hz]
    split at hr
    · split at hr
      · cases hr
      · rename_i hneg
        cases hr
        exact fin _ (by simp [binOp, Op.shift, hneg, Nat.min_def]) (.int _ _)
    · split at hr
      · cases hr
      · rename_i hneg
        cases hr
        exact fin _ (by simp [binOp, Op.shift, hneg, Nat.min_def]) (.int _ _)
    · rename_i hsl hsr
      split at hr
      · rename_i hk
        subst hk
        split at hr
        · cases hr; exact fin _ (by simp [binOp, Op.intArith]) (.int _ _)
        · cases hr; exact fin _ (by simp [binOp, Op.intArith]) (.int _ _)
        · cases hr; exact fin _ (by simp [binOp, Op.intArith]) (.int _ _)
        · split at hr
          · cases hr
          · rename_i h0; cases hr; exact fin _ (by simp [binOp, Op.intDiv, h0]) (.int _ _)
        · split at hr
          · cases hr
          · rename_i h0; cases hr; exact fin _ (by simp [binOp, Op.intDiv, h0]) (.int _ _)
        · cases hr; exact fin _ (by simp [binOp, Op.intBits]) (.int _ _)
        · cases hr; exact fin _ (by simp [binOp, Op.intBits]) (.int _ _)
        · cases hr; exact fin _ (by simp [binOp, Op.intBits]) (.int _ _)
        · cases hr; exact fin _ (by simp [binOp, Op.intBits]) (.int _ _)
        · cases hr; exact fin _ (by simp [binOp, Op.intCmp]) (.bool _)
        · cases hr; exact fin _ (by simp [binOp, Op.intCmp]) (.bool _)
        · cases hr; exact fin _ (by simp [binOp, Op.intCmp]) (.bool _)
        · cases hr; exact fin _ (by simp [binOp, Op.intCmp]) (.bool _)
        · cases hr; exact fin _ (by simp [binOp, Op.intCmp]) (.bool _)
        · cases hr; exact fin _ (by simp [binOp, Op.intCmp]) (.bool _)
        · cases hr
      · cases hr
  · cases hr

theorem do_not (hG : GR w κ G) (hE : ER w κ e a.tmps) (R : Rel chk κ h w) {t : TypeId} {x : Operand} {x' : Opd} (ho : o.op = .unOp .not t x)
    (hx : opdOk x x' = true) (hv : ev G e h (.not x') = some (v, h')) : Done P chk o a w κ h' v := by
  simp only [ev, Option.bind_eq_bind, Option.bind_eq_some_iff, Option.some.injEq, Prod.mk.injEq] at hv
  obtain ⟨u, hu, p, hp, rfl, rfl⟩ := hv
  have hru := opd_sound hG hE hx hu
  unfold bval at hp
  split at hp
  · cases hp
    refine .quiet R ?_ (.bool _)
    simp [execOp, ho, hru.bool_inv, Op.unary]
  · cases hp

theorem do_neg (hG : GR w κ G) (hE : ER w κ e a.tmps) (R : Rel chk κ h w) {t : TypeId} {x : Operand} {x' : Opd} (ho : o.op = .unOp .neg t x)
    (hx : opdOk x x' = true) (hv : ev G e h (.neg x') = some (v, h')) : Done P chk o a w κ h' v := by
  simp only [ev, Option.bind_eq_bind, Option.bind_eq_some_iff] at hv
  obtain ⟨u, hu, hv⟩ := hv
  have hru := opd_sound hG hE hx hu
  split at hv
  · simp only [Option.some.injEq, Prod.mk.injEq] at hv
    obtain ⟨rfl, rfl⟩ := hv
    refine .quiet R ?_ (.int _ _)
    simp [execOp, ho, hru.int_inv, Op.unary, Op.intArith]
  · cases hv

theorem do_mkfunc (hG : GR w κ G) (hE : ER w κ e a.tmps) (R : Rel chk κ h w) {f : Nat} {x y : Array Operand} {x' y' : List Opd} (ho : o.op = .makeFunc (.func f) x y)
    (hx : opdsOk x.toList x' = true) (hy : opdsOk y.toList y' = true) (hv : ev G e h (.mkfunc f x' y') = some (v, h')) : Done P chk o a w κ h' v := by
  simp only [ev, Option.bind_eq_bind, Option.bind_eq_some_iff, Option.some.injEq, Prod.mk.injEq] at hv
  obtain ⟨u, hu, p, hp, rfl, rfl⟩ := hv
  have h1 := vals_sound hG hE hx hu
  have h2 := vals_sound hG hE hy hp
  refine .quiet R (x := .func (.func f) (x.map a.eval) (y.map a.eval)) ?_ ?_
  · simp [execOp, ho, Instr.makeFunc]
  · have e1 : x.map a.eval = ⟨x.toList.map a.eval⟩ := by apply Array.ext'; simp
    have e2 : y.map a.eval = ⟨y.toList.map a.eval⟩ := by apply Array.ext'; simp
    rw [e1, e2]
    exact .func _ _ _ _ _ h1 h2

theorem do_mkmap (R : Rel chk κ h w) {t : TypeId} (ho : o.op = .makeMap t none) (hv : ev G e h .mkmap = some (v, h')) : Done P chk o a w κ h' v := by
  simp only [ev, Option.some.injEq, Prod.mk.injEq] at hv
  obtain ⟨rfl, rfl⟩ := hv
  obtain ⟨X, R'⟩ := R.push_place (.map #[] 0) (.map []) rfl (by intro _ _ h; cases h)
    (fun _ => ⟨[], 0, by simp only [K.place, if_true]; exact push_new w _, .nil⟩)
  refine ⟨_, _, .map (some w.heap.size), .inl ?_, X, R', ?_⟩
  · simp [execOp, ho, Instr.makeMap, push]
  · have := VR.map (w := push w (.map #[] 0)) (κ := κ.place w.heap.size) h.next (by simp [K.place, R.n])
    simpa [K.place, R.n] using this

theorem do_extract (hG : GR w κ G) (hE : ER w κ e a.tmps) (R : Rel chk κ h w) {x : Operand} {x' : Opd} {i : Nat} (ho : o.op = .extract x i)
    (hx : opdOk x x' = true) (hv : ev G e h (.extract x' i) = some (v, h')) : Done P chk o a w κ h' v := by
  simp only [ev, Option.bind_eq_bind, Option.bind_eq_some_iff] at hv
  obtain ⟨u, hu, hv⟩ := hv
  have hru := opd_sound hG hE hx hu
  split at hv
  · simp only [Option.bind_eq_some_iff, Option.some.injEq, Prod.mk.injEq] at hv
    obtain ⟨p, hp, rfl, rfl⟩ := hv
    obtain ⟨xs, hxx, hl⟩ := hru.tuple_inv
    obtain ⟨y, hy, hr⟩ := hl.get hp
    refine .quiet R ?_ hr
    simp [execOp, ho, hxx, Instr.extract, hy]
  · cases hv

theorem run_part {t : TypeId} {s : Option Nat} (hs : shapeT P t = some s) {cs : List V} {xs : List Value} (hl : VRL w κ cs xs) {off : Nat} {u : V} (hu : sub off s cs = some u) :
    ∃ y, (part t ⟨xs⟩ off).run P w = .ok y w ∧ VR w κ u y := by
  cases s with
  | none =>
    obtain ⟨y, hy, hr⟩ := hl.get (sub_none hu).1
    refine ⟨y, ?_, hr⟩
    have hy' : (⟨xs⟩ : Array Value)[off]? = some y := by simpa using hy
    simp only [part, Sem.run_bind, run_isAgg_none (P := P) (w := w) hs, Result.andThen_ok, Sem.run_ite, Bool.false_eq_true, if_false, hy', Sem.run_pure]
  | some n =>
    simp only [sub] at hu
    split at hu
    · cases hu
      obtain ⟨h1, h2⟩ := run_isAgg_some (P := P) (w := w) hs
      refine ⟨.agg ((⟨xs⟩ : Array Value).extract off (off + n)), ?_, ?_⟩
      · simp [part, h1, h2]
      · have : (⟨xs⟩ : Array Value).extract off (off + n) = ⟨(xs.drop off).take n⟩ := by
          apply Array.ext'
          simp [List.extract]
        rw [this]
        exact .agg _ _ ((hl.drop off).take n)
    · cases hu

theorem do_field (hG : GR w κ G) (hE : ER w κ e a.tmps) (R : Rel chk κ h w) {t : TypeId} {x : Operand} {x' : Opd} {i off : Nat} {s : Option Nat} {fs : Array Field} {f : Field} (ho : o.op = .field t x i)
    (hu : P.underlying t = some (.struct fs)) (hf : fs[i]? = some f) (hoff : f.offset = off) (hs : shapeT P f.type = some s) (hx : opdOk x x' = true)
    (hv : ev G e h (.field off s x') = some (v, h')) : Done P chk o a w κ h' v := by
  simp only [ev, Option.bind_eq_bind, Option.bind_eq_some_iff] at hv
  obtain ⟨u, hu', hv⟩ := hv
  have hru := opd_sound hG hE hx hu'
  split at hv
  · simp only [Option.bind_eq_some_iff, Option.some.injEq, Prod.mk.injEq] at hv
    obtain ⟨p, hp, rfl, rfl⟩ := hv
    obtain ⟨xs, hxx, hl⟩ := hru.agg_inv
    obtain ⟨y, hy, hr⟩ := run_part hs hl hp
    refine .quiet R ?_ hr
    simp [execOp, ho, hxx, Instr.field, run_underlying hu, hf, asAgg, hoff, hy]
  · cases hv

theorem Mem.drop {B q : Nat} {xs : List Value} (hm : Mem w κ B q xs) (n : Nat) : Mem w κ B (q + n) (xs.drop n) := by
  intro i x hx
  rw [List.getElem?_drop] at hx
  rw [Nat.add_assoc]
  exact hm _ _ hx
theorem Mem.take {B q : Nat} {xs : List Value} (hm : Mem w κ B q xs) (n : Nat) : Mem w κ B q (xs.take n) := by
  intro i x hx
  rw [List.getElem?_take] at hx
  split at hx
  · exact hm _ _ hx
  · cases hx
/-- a part of memory that is never written -/
theorem sub_mem {cs : List V} {xs : List Value} {B q off : Nat} {s : Option Nat} {u : V} (hl : VRL w κ cs xs) (hm : Mem w κ B q xs) (hu : sub off s cs = some u) : VR w κ (.vptr u) (.pointer (some ⟨B, q + off, none⟩)) := by
  cases s with
  | none =>
    obtain ⟨hu, hna⟩ := sub_none hu
    obtain ⟨y, hy, hr⟩ := hl.get hu
    refine .vptr _ _ _ [y] (.one _ _ hna hr) ?_
    intro i x hx
    cases i with
    | zero => simp at hx; subst hx; exact hm _ _ hy
    | succ i => simp at hx
  | some n =>
    simp only [sub] at hu
    split at hu
    · cases hu
      exact .vptr _ _ _ _ (.agg _ _ ((hl.drop off).take n)) ((hm.drop off).take n)
    · cases hu
end
end Go.Vi
