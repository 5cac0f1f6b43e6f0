/- Each operation of the plain reading against the model's, one by one (fourth part). No statement of a claim stands here. -/
import Derived.Test.YtngcbeckobfaaaaDoorVs
set_option linter.unusedSimpArgs false
set_option linter.unusedVariables false
namespace Go.Vi
open Go

section
variable {P : Program} {chk : Nat → Code → VCode → Bool} {w : World} {κ : K} {h h' : H} {G : Globs} {e : Env} {a : Act} {o : Oper} {v : V}

theorem fold_splice : ∀ (xs : List Value) (j off : Nat) (arr : Array Value), off + j + xs.length ≤ arr.size →
    ((xs.zipIdx j).foldl (fun cs (p : Value × Nat) => cs.setIfInBounds (off + p.2) p.1) arr).toList = arr.toList.take (off + j) ++ xs ++ arr.toList.drop (off + j + xs.length)
  | [], j, off, arr, _ => by simp
  | x :: xs, j, off, arr, hl => by
    simp only [List.length_cons] at hl
    simp only [List.zipIdx_cons, List.foldl_cons]
    rw [fold_splice xs (j + 1) off (arr.setIfInBounds (off + j) x) (by simp; omega)]
    have := list_seg_step arr.toList (off + j) x xs (by simp; omega)
    simpa [Array.toList_setIfInBounds, Nat.add_assoc] using this

theorem fill_step {place : Nat → Option (Nat × Nat)} {arr : Array Value} {i off n : Nat} {x : Value} {ps : List (Nat × Value)} (hp : place i = some (off, n)) (hn : x.cells.size = n) (hl : off + n ≤ arr.size) :
    ∃ arr' : Array Value, Instr.fill place arr ((i, x) :: ps) = Instr.fill place arr' ps ∧ arr'.toList = arr.toList.take off ++ x.cells.toList ++ arr.toList.drop (off + n) ∧ arr'.size = arr.size := by
  refine ⟨x.cells.zipIdx.foldl (fun cs (c, j) => cs.setIfInBounds (off + j) c) arr, ?_, ?_, ?_⟩
  · simp only [Instr.fill, hp]
    rw [if_neg (by simp; omega)]
  · rw [← Array.foldl_toList, Array.toList_zipIdx]
    have := fold_splice x.cells.toList 0 off arr (by simp; omega)
    simpa [hn] using this
  · have : (x.cells.zipIdx.foldl (fun cs (c, j) => cs.setIfInBounds (off + j) c) arr).toList.length = arr.size := by
      rw [← Array.foldl_toList, Array.toList_zipIdx]
      have := congrArg List.length (fold_splice x.cells.toList 0 off arr (by simp; omega))
      rw [this]; simp; omega
    simpa using this

theorem fill_sound (hG : GR w κ G) (hE : ER w κ e a.tmps) {place : Nat → Option (Nat × Nat)} (f : Nat × Operand → Nat × Nat × Opd → Bool)
    (hf : ∀ p q, f p q = true → place p.1 = some (q.1, q.2.1) ∧ opdOk p.2 q.2.2 = true) :
    ∀ (ps : List (Nat × Operand)) (qs : List (Nat × Nat × Opd)), all2 f ps qs = true → ∀ (z : List V) (arr : Array Value), VRL w κ z arr.toList → ∀ z', fillIn G e z qs = some z' →
      ∃ arr' : Array Value, Instr.fill place arr (ps.map fun p => (p.1, a.eval p.2)) = some arr' ∧ VRL w κ z' arr'.toList
  | [], [], _, z, arr, hz, z', h => by simp only [fillIn, Option.some.injEq] at h; subst h; exact ⟨arr, rfl, hz⟩
  | p :: ps, q :: qs, hall, z, arr, hz, z', h => by
    simp only [all2, Bool.and_eq_true] at hall
    obtain ⟨h1, h2⟩ := hf p q hall.1
    obtain ⟨off, n, y⟩ := q
    simp only [fillIn] at h
    split at h
    · cases h
    · cases h
    · rename_i u hud hu
      split at h
      · rename_i hn
        split at h
        · rename_i hle
          have hr := opd_sound hG hE h2 hu
          have hlen := hz.length
          have hc : VRL w κ u.cells (a.eval p.2).cells.toList := hr.cells (by cases u <;> simp_all [V.cells, V.isAgg])
          have hcl := hc.length
          obtain ⟨arr1, e1, e2, e3⟩ := fill_step (x := a.eval p.2) (ps := ps.map fun p => (p.1, a.eval p.2)) h1 (by simpa [hn] using hcl.symm) (by simpa [hlen] using hle)
          obtain ⟨arr', e4, e5⟩ := fill_sound hG hE f hf ps qs hall.2 (setRange z off u.cells) arr1 (by
            rw [e2]
            have := hz.setRange hc off
            rwa [← hcl, hn] at this) z' h
          exact ⟨arr', by rw [List.map_cons, e1]; exact e4, e5⟩
        · cases h
      · cases h
  | [], _ :: _, h, _, _, _, _, _ => by simp [all2] at h
  | _ :: _, [], h, _, _, _, _, _ => by simp [all2] at h

theorem run_sizeOf_of {t : TypeId} {n : Nat} (hn : sizeT P t = some n) : (sizeOf t).run P w = .ok n w := by
  unfold sizeT at hn
  simp only [Option.map_eq_some_iff] at hn
  obtain ⟨i, hi, rfl⟩ := hn
  simp [sizeOf, typeInfo, hi]
theorem run_zero_of {t : TypeId} {z : Value} (hz : zeroT P t = some z) : (zeroValue t).run P w = .ok z w := by
  unfold zeroT at hz
  simp only [Option.bind_eq_some_iff] at hz
  obtain ⟨i, hi, hz⟩ := hz
  simp [zeroValue, typeInfo, hi, hz]

def fieldPair (f : Field) : Sem (Nat × Nat) := do pure (f.offset, ← sizeOf f.type)
theorem run_mapM_fields (fs : List Field) (hall : ∀ f ∈ fs, (P.info? f.type).isSome = true) : ∃ ps : List (Nat × Nat), (fs.mapM fieldPair).run P w = .ok ps w ∧
    ∀ i : Nat, ps[i]? = (fs[i]?).map fun (f : Field) => (f.offset, P.cellsOf f.type) := by
  induction fs with
  | nil => exact ⟨[], by simp, by simp⟩
  | cons f fs ih =>
    obtain ⟨ps, h1, h2⟩ := ih (fun g hg => hall g (by simp [hg]))
    obtain ⟨i, hi⟩ := Option.isSome_iff_exists.1 (hall f (by simp))
    refine ⟨(f.offset, P.cellsOf f.type) :: ps, ?_, ?_⟩
    · rw [List.mapM_cons]
      simp [fieldPair, sizeOf, typeInfo, hi, h1, Program.cellsOf]
    · intro j
      cases j with
      | zero => simp
      | succ j => simpa using h2 j

theorem do_build_struct (hG : GR w κ G) (hE : ER w κ e a.tmps) (R : Rel chk κ h w) {t : TypeId} {ps : Array (Nat × Operand)} {z : List V} {qs : List (Nat × Nat × Opd)} {zv : Value} {fs : Array Field} (ho : o.op = .build t ps)
    (hz : zeroT P t = some zv) (hzc : valsOk zv.cells.toList z = true) (hu : P.underlying t = some (.struct fs)) (hfs : fs.toList.all (fun f => (P.info? f.type).isSome) = true)
    (hq : all2 (partOk P fs) ps.toList qs = true) (hv : ev G e h (.build z qs) = some (v, h')) : Done P chk o a w κ h' v := by
  simp only [ev, Option.bind_eq_bind, Option.bind_eq_some_iff, Option.some.injEq, Prod.mk.injEq] at hv
  obtain ⟨z', hz', rfl, rfl⟩ := hv
  obtain ⟨pl, h1, h2⟩ := run_mapM_fields (P := P) (w := w) fs.toList (List.all_eq_true.1 hfs)
  obtain ⟨arr', e1, e2⟩ := fill_sound hG hE (place := ((⟨pl⟩ : Array (Nat × Nat))[·]?)) (partOk P fs) (by
    intro p q hpq
    unfold partOk at hpq
    split at hpq
    · rename_i f hf
      simp only [Bool.and_eq_true, Nat.beq_eq, decide_eq_true_eq] at hpq
      obtain ⟨⟨ho', hs⟩, hop⟩ := hpq
      refine ⟨?_, hop⟩
      have hcs : P.cellsOf f.type = q.2.1 := by
        unfold sizeT at hs; unfold Program.cellsOf; rw [hs]; rfl
      have e0 : (⟨pl⟩ : Array (Nat × Nat))[p.1]? = pl[p.1]? := by simp
      rw [e0, h2, Array.getElem?_toList, hf]
      simp [ho', hcs]
    · cases hpq) ps.toList qs hq z zv.cells (valsOk_sound hzc) z' hz'
  refine .quiet R (x := .agg arr') ?_ (.agg _ _ e2)
  have e3 : (ps.map fun (i, x) => (i, a.eval x)).toList = ps.toList.map fun p => (p.1, a.eval p.2) := by simp
  have h1' : (fs.mapM fieldPair).run P w = .ok ⟨pl⟩ w := by
    rw [Array.mapM_eq_mapM_toList]
    simp [h1]
  simp only [execOp, ho, Instr.build, Sem.run_bind, run_zero_of hz, Result.andThen_ok, run_underlying hu]
  have h1'' : (fs.mapM (m := Sem) (fun (f : Field) => (do let s ← sizeOf f.type; pure (f.offset, s)))).run P w = .ok ⟨pl⟩ w := h1'
  simp only [h1'', Result.andThen_ok, e3, e1, Sem.run_pure]

theorem do_build_array (hG : GR w κ G) (hE : ER w κ e a.tmps) (R : Rel chk κ h w) {t el : TypeId} {ps : Array (Nat × Operand)} {z : List V} {qs : List (Nat × Nat × Opd)} {zv : Value} {n k : Nat} (ho : o.op = .build t ps)
    (hz : zeroT P t = some zv) (hzc : valsOk zv.cells.toList z = true) (hu : P.underlying t = some (.array n el)) (hk : sizeT P el = some k)
    (hq : all2 (itemOk k) ps.toList qs = true) (hv : ev G e h (.build z qs) = some (v, h')) : Done P chk o a w κ h' v := by
  simp only [ev, Option.bind_eq_bind, Option.bind_eq_some_iff, Option.some.injEq, Prod.mk.injEq] at hv
  obtain ⟨z', hz', rfl, rfl⟩ := hv
  obtain ⟨arr', e1, e2⟩ := fill_sound hG hE (place := fun i => some (i * k, k)) (itemOk k) (by
    intro p q hpq
    simp only [itemOk, Bool.and_eq_true, Nat.beq_eq] at hpq
    exact ⟨by rw [hpq.1.1, hpq.1.2], hpq.2⟩) ps.toList qs hq z zv.cells (valsOk_sound hzc) z' hz'
  refine .quiet R (x := .agg arr') ?_ (.agg _ _ e2)
  have e3 : (ps.map fun (i, x) => (i, a.eval x)).toList = ps.toList.map fun p => (p.1, a.eval p.2) := by simp
  simp only [execOp, ho, Instr.build, Sem.run_bind, run_zero_of hz, Result.andThen_ok, run_underlying hu, run_sizeOf_of hk, e3, e1, Sem.run_pure]

theorem CR.size {u : V} {x : Value} (h : VR w κ u x) (hud : u ≠ .undef) : x.cells.toList.length = u.cells.length := by
  cases h <;> first | rfl | (exact absurd rfl hud) | (rename_i hl; exact hl.length.symm)

theorem take_two {α : Type} {A B C : List α} {n m : Nat} (hA : A.length = n) (hB : B.length = m) : (A ++ (B ++ C)).take (n + m) = A ++ B := by
  rw [← List.append_assoc]
  have : n + m = (A ++ B).length := by simp [hA, hB]
  rw [this, List.take_left]

theorem fill_row {k : Nat} (hk1 : 1 ≤ k) (hG : GR w κ G) (hE : ER w κ e a.tmps) : ∀ (ps : List (Nat × Operand)) (qs : List Opd) (j : Nat), inRow j ps qs = true → ∀ (vs : List V), vals G e qs = some vs →
    vs.all (fun v => v.cells.length == k && v.cells.all V.cell1) = true → ∀ arr : Array Value, arr.size = (j + vs.length) * k →
      ∃ (arr' : Array Value) (ys : List Value), Instr.fill (fun i => some (i * k, k)) arr (ps.map fun p => (p.1, a.eval p.2)) = some arr' ∧ arr'.toList = arr.toList.take (j * k) ++ ys ∧ RR w κ k vs ys ∧ ∀ x ∈ ys, x.oneCell' = true
  | [], [], j, _, vs, hv, _, arr, hs => by
    simp only [vals, Option.some.injEq] at hv; subst hv
    refine ⟨arr, [], rfl, ?_, .nil _, by simp⟩
    rw [List.append_nil, List.take_of_length_le (by simp at hs; simp [hs])]
  | (i, x) :: ps, y :: qs, j, hr, vs, hv, hall, arr, hs => by
    simp only [inRow, Bool.and_eq_true, Nat.beq_eq] at hr
    obtain ⟨⟨rfl, hop⟩, hrest⟩ := hr
    simp only [vals, Option.bind_eq_bind, Option.bind_eq_some_iff, Option.some.injEq] at hv
    obtain ⟨u, hu, us, hus, rfl⟩ := hv
    simp only [List.all_cons, Bool.and_eq_true, beq_iff_eq] at hall
    obtain ⟨⟨hk, hcell⟩, hall⟩ := hall
    have hur := opd_sound hG hE hop hu
    have hud : u ≠ .undef := by rintro rfl; simp [V.cells] at hk; omega
    have hcr := hur.cr hud
    have hsz := CR.size hur hud
    rw [hk] at hsz
    simp only [List.length_cons] at hs
    have hbig : i * k + k ≤ arr.size := by rw [hs]; have := Nat.mul_le_mul_right k (show i + 1 ≤ i + (us.length + 1) by omega); rw [Nat.succ_mul] at this; exact this
    obtain ⟨arr1, e1, e2, e3⟩ := fill_step (place := fun i => some (i * k, k)) (i := i) (x := a.eval x) (ps := ps.map fun p => (p.1, a.eval p.2)) rfl (by simpa using hsz) hbig
    obtain ⟨arr', ys, e4, e5, e6, e7⟩ := fill_row hk1 hG hE ps qs (i + 1) hrest us hus hall arr1 (by rw [e3, hs]; congr 1; omega)
    refine ⟨arr', (a.eval x).cells.toList ++ ys, by rw [List.map_cons, e1]; exact e4, ?_, .cons _ _ _ _ _ hcr hsz e6, ?_⟩
    rotate_left
    · intro q hq
      rcases List.mem_append.1 hq with hq | hq
      · exact ones_of_cell1 (hur.cells (by cases u <;> simp_all [V.cells, V.isAgg])) hcell q hq
      · exact e7 q hq
    have hlt : (arr.toList.take (i * k)).length = i * k := by simp; omega
    rw [e5, e2, Nat.succ_mul, List.append_assoc (List.take _ _), take_two hlt hsz, List.append_assoc]
  | [], _ :: _, _, h, _, _, _, _, _ => by simp [inRow] at h
  | _ :: _, [], _, h, _, _, _, _, _ => by simp [inRow] at h

theorem do_mkslice (hG : GR w κ G) (hE : ER w κ e a.tmps) (R : Rel chk κ h w) {t el : TypeId} {len k : Nat} {ps : Array (Nat × Operand)} {qs : List Opd} {zv : Value} (ho : o.op = .buildSlice t len ps)
    (hu : P.underlying t = some (.slice el)) (hk : sizeT P el = some k) (hk1 : 1 ≤ k) (hlen : len = qs.length) (hbig : len * k ≤ 2 ^ 24) (hz : zeroT P el = some zv) (hq : inRow 0 ps.toList qs = true)
    (hv : ev G e h (.mkslice k qs) = some (v, h')) : Done P chk o a w κ h' v := by
  simp only [ev, Option.bind_eq_bind, Option.bind_eq_some_iff] at hv
  obtain ⟨vs, hvs, hv⟩ := hv
  split at hv
  · rename_i hall
    simp only [Option.some.injEq, Prod.mk.injEq] at hv
    obtain ⟨rfl, rfl⟩ := hv
    have hvl : vs.length = qs.length := by
      clear hall hq hlen
      induction qs generalizing vs with
      | nil => simp [vals] at hvs; simp [← hvs]
      | cons y qs ih =>
        simp only [vals, Option.bind_eq_bind, Option.bind_eq_some_iff, Option.some.injEq] at hvs
        obtain ⟨u, _, us, hus, rfl⟩ := hvs
        simp [ih _ hus]
    let init : Array Value := if len * k = 0 then #[] else ((Array.range (len * k)).map (zv.cells[· % zv.cells.size]!))
    have hinit : init.size = len * k := by
      show (if len * k = 0 then #[] else _ : Array Value).size = _
      split
      · simp_all
      · simp
    obtain ⟨arr', ys, e1, e2, e3, e8⟩ := fill_row hk1 hG hE ps.toList qs 0 hq vs hvs hall init (by rw [hinit, hlen, hvl]; simp)
    have earr : arr' = ⟨ys⟩ := by apply Array.ext'; rw [e2]; simp
    subst earr
    obtain ⟨X, R', hm⟩ := R.push_sealed ys el e8
    refine ⟨_, _, .slice (some ⟨w.heap.size, 0, none⟩) len len, .inl ?_, X, R', ?_⟩
    · have e4 : (ps.map fun (i, x) => (i, a.eval x)).toList = ps.toList.map fun p => (p.1, a.eval p.2) := by simp
      have hnb : ¬ len * k > 2 ^ 24 := by omega
      by_cases h0 : len * k = 0
      · have einit : init = #[] := Array.eq_empty_of_size_eq_zero (by rw [hinit, h0])
        rw [einit] at e1
        simp only [execOp, ho, Instr.buildSlice, Sem.run_bind, run_underlying hu, Result.andThen_ok, run_sizeOf_of hk, Sem.run_ite, if_neg hnb, if_pos h0, Sem.run_pure, e4]
        have e5 : ∀ f : Nat → Value, (Array.range (len * k)).map f = #[] := fun f => Array.eq_empty_of_size_eq_zero (by simp [h0])
        simp only [e5, e1]
        simp [newRow, push]
      · have einit : init = (Array.range (len * k)).map (zv.cells[· % zv.cells.size]!) := by
          show (if len * k = 0 then #[] else _ : Array Value) = _
          rw [if_neg h0]
        rw [einit] at e1
        simp only [execOp, ho, Instr.buildSlice, Sem.run_bind, run_underlying hu, Result.andThen_ok, run_sizeOf_of hk, Sem.run_ite, if_neg hnb, if_neg h0, run_zero_of hz, Sem.run_pure, e4, e1]
        simp [newRow, push]
    · have : VR (push w (.cells ⟨ys⟩ el)) (κ.clasp w.heap.size) (.slice k vs .shut) (.slice (some ⟨w.heap.size, 0, none⟩) vs.length vs.length) :=
        .slice k vs .shut _ _ ys (e3.mono X) (.inl ⟨_, _, rfl, hm⟩) (Nat.le_refl _) ⟨by simp, rfl⟩
      rwa [hvl, ← hlen] at this
  · cases hv

theorem run_minmax {mx : Bool} : ∀ (vs : List V) (xs : List Value), VRL w κ vs xs → ∀ (n : Int) (k : IntKind) (u : V), minmax mx n k vs = some u →
    ∃ y, (xs.foldlM (if mx then Builtin.max2 else Builtin.min2) (.int k n)).run P w = .ok y w ∧ VR w κ u y
  | [], _, .nil, n, k, u, h => by simp only [minmax, Option.some.injEq] at h; subst h; exact ⟨_, by simp, .int _ _⟩
  | v :: vs, _, .cons _ _ x xs hx hr, n, k, u, h => by
    unfold minmax at h
    split at h
    · rename_i he; cases he
    · rename_i he
      cases he
      split at h
      · rename_i hk
        subst hk
        obtain ⟨y, e1, e2⟩ := run_minmax vs xs hr _ _ u h
        refine ⟨y, ?_, e2⟩
        rw [List.foldlM_cons, hx.int_inv]
        cases mx <;> simp_all [Builtin.max2, Builtin.min2]
      · cases h
    · cases h

theorem do_minmax (hG : GR w κ G) (hE : ER w κ e a.tmps) (R : Rel chk κ h w) {c : Call} {xs : List Opd} {mx : Bool} (ho : o.op = .call c) (hb : c.callee = .builtin (if mx then .max else .min)) (hargs : opdsOk c.args.toList xs = true)
    (hv : ev G e h (if mx then .max xs else .min xs) = some (v, h')) : Done P chk o a w κ h' v := by
  have hv' : ∃ k n r, vals G e xs = some (.int k n :: r) ∧ minmax mx n k r = some v ∧ h = h' := by
    cases mx <;> simp only [if_true, Bool.false_eq_true, if_false, ev, Option.bind_eq_bind, Option.bind_eq_some_iff] at hv
    all_goals
      obtain ⟨l, hl, hv⟩ := hv
      split at hv
      · simp only [Option.bind_eq_some_iff, Option.some.injEq, Prod.mk.injEq] at hv
        obtain ⟨u, hu, rfl, rfl⟩ := hv
        exact ⟨_, _, _, hl, hu, rfl⟩
      · cases hv
  obtain ⟨k, n, r, hvs, hm, rfl⟩ := hv'
  have hl := vals_sound hG hE hargs hvs
  generalize hxs : c.args.toList.map a.eval = zs at hl
  cases hl with
  | cons _ _ x ys hx hr =>
    obtain ⟨y, e1, e2⟩ := run_minmax (P := P) (mx := mx) r ys hr n k v hm
    refine .quiet R ?_ e2
    have e3 : (c.args.map a.eval).toList = .int k n :: ys := by rw [Array.toList_map, hxs, hx.int_inv]
    cases mx <;> simp_all [execOp, resolve, invoke, builtin, Builtin.max_, Builtin.min_]

theorem nil_slice {u : V} {b : Bool} (hb : isNil 0 u = some b) {x : Value} (hx : VR w κ u x) :
    (b = true ∧ ∃ n c, x = .slice none n c) ∨ (b = false ∧ ∃ p n c, x = .slice (some p) n c) := by
  cases hx
  case slice k es t base cap xs hr hbs hc ht =>
    cases t with
    | nil => simp [isNil] at hb; subst hb; simp [TipOk] at ht; subst ht; exact .inl ⟨rfl, _, _, rfl⟩
    | own i =>
      have : b = false := by cases es <;> simp [isNil] at hb <;> exact hb
      subst this
      obtain ⟨_, h1, _⟩ := ht
      cases base with
      | none => exact absurd rfl h1
      | some p => exact .inr ⟨rfl, _, _, _, rfl⟩
    | shut =>
      have : b = false := by cases es <;> simp [isNil] at hb <;> exact hb
      subst this
      obtain ⟨h1, _⟩ := ht
      cases base with
      | none => exact absurd rfl h1
      | some p => exact .inr ⟨rfl, _, _, _, rfl⟩
    | full | any =>
      cases es with
      | nil => simp [isNil] at hb
      | cons u us =>
        simp [isNil] at hb; subst hb
        rcases hbs with ⟨B, q, rfl, _⟩ | ⟨h0, _⟩
        · exact .inr ⟨rfl, _, _, _, rfl⟩
        · simp at h0
  case hs => simp [isNil] at hb; subst hb; exact .inr ⟨rfl, _, _, _, rfl⟩
  all_goals simp [isNil] at hb

theorem do_isnil (hG : GR w κ G) (hE : ER w κ e a.tmps) (R : Rel chk κ h w) {op : BinOp} {t t' : TypeId} {x y : Operand} {x' : Opd} {kd : Nat} {neg : Bool} (ho : o.op = .binOp op t x y t')
    (hop : op = if neg then .neq else .eql)
    (hk : nilOk P t kd y = true) (hx : opdOk x x' = true)
    (hv : ev G e h (.isnil kd neg x') = some (v, h')) : Done P chk o a w κ h' v := by
  simp only [ev, Option.bind_eq_bind, Option.bind_eq_some_iff, Option.some.injEq, Prod.mk.injEq] at hv
  obtain ⟨u, hu, b, hb, rfl, rfl⟩ := hv
  have hru := opd_sound hG hE hx hu
  have key : ∀ X : Value, a.eval x = X → (∀ d, (Op.equalIn (d + 1) t X (a.eval y)).run P w = .ok b w) → (∀ c, X ≠ .agg c) → X ≠ .nilIface → (∀ k n, X ≠ .int k n) → (∀ k n, X ≠ .float k n) → (∀ k n m, X ≠ .complex k n m) → (∀ s, X ≠ .string s) →
      Done P chk o a w κ h (.bool (if neg then !b else b)) := by
    intro X hX hr' h1 h2 h3 h4 h5 h6
    have hr : (Op.equalIn 10000 t X (a.eval y)).run P w = .ok b w := hr' 9999
    clear hr'
    refine .quiet R (x := .bool (if neg then !b else b)) ?_ (.bool _)
    have hg : (eqGuard op t x y X (a.eval y)).run P w = .ok () w := by
      cases X <;> first
        | (exact absurd rfl (h1 _))
        | (exact absurd rfl h2)
        | (simp [eqGuard]; done)
    have hbin : (binOp op t X (a.eval y)).run P w = .ok (.bool (if neg then !b else b)) w := by
      subst hop
      have hr2 : (Op.equal t X (a.eval y)).run P w = .ok b w := hr
      clear hr
      cases neg <;> cases X <;> first
        | (exact absurd rfl (h1 _))
        | (exact absurd rfl h2)
        | (exact absurd rfl (h3 _ _))
        | (exact absurd rfl (h4 _ _))
        | (exact absurd rfl (h5 _ _ _))
        | (exact absurd rfl (h6 _))
        | (simp only [binOp, if_true, Bool.false_eq_true, if_false, Sem.run_bind, hr2, Result.andThen_ok, Sem.run_pure])
    simp only [execOp, ho, Sem.run_bind, hX, hg, Result.andThen_ok, hbin, Sem.run_pure]
  unfold nilOk at hk
  split at hk
  · rename_i hu'
    rcases nil_slice hb hru with ⟨rfl, n, c, hX⟩ | ⟨rfl, p, n, c, hX⟩
    · exact key _ hX (fun d => by simp [Act.eval, Op.equalIn, run_underlying hu']) (by simp) (by simp) (by simp) (by simp) (by simp) (by simp)
    · exact key _ hX (fun d => by simp [Act.eval, Op.equalIn, run_underlying hu']) (by simp) (by simp) (by simp) (by simp) (by simp) (by simp)
  · rename_i hu'
    cases u <;> simp [isNil] at hb
    · subst hb; exact key _ hru.ptr_inv.2 (fun d => by simp [Act.eval, Op.equalIn, run_underlying hu']) (by simp) (by simp) (by simp) (by simp) (by simp) (by simp)
    · subst hb
      obtain ⟨B, q, xs, hX, _⟩ := hru.vptr_inv
      exact key _ hX (fun d => by simp [Act.eval, Op.equalIn, run_underlying hu']) (by simp) (by simp) (by simp) (by simp) (by simp) (by simp)
    · subst hb
      have hX : a.eval x = .pointer none := by generalize a.eval x = z at hru; cases hru; rfl
      exact key _ hX (fun d => by simp [Act.eval, Op.equalIn, run_underlying hu']) (by simp) (by simp) (by simp) (by simp) (by simp) (by simp)
  · rename_i hu'
    cases u <;> simp [isNil] at hb
    · subst hb
      obtain ⟨xa, xc, hX, _⟩ := hru.func_inv
      exact key _ hX (fun d => by simp [Act.eval, Op.equalIn, run_underlying hu']) (by simp) (by simp) (by simp) (by simp) (by simp) (by simp)
    · subst hb
      have hX : a.eval x = .nilFunc := by generalize a.eval x = z at hru; cases hru; rfl
      exact key _ hX (fun d => by simp [Act.eval, Op.equalIn, run_underlying hu']) (by simp) (by simp) (by simp) (by simp) (by simp) (by simp)
  · rename_i hu'
    cases u <;> simp [isNil] at hb
    · subst hb; exact key _ hru.map_inv.2 (fun d => by simp [Act.eval, Op.equalIn, run_underlying hu']) (by simp) (by simp) (by simp) (by simp) (by simp) (by simp)
    · subst hb; exact key _ hru.nilm_inv (fun d => by simp [Act.eval, Op.equalIn, run_underlying hu']) (by simp) (by simp) (by simp) (by simp) (by simp) (by simp)
  · cases hk
end
end Go.Vi
