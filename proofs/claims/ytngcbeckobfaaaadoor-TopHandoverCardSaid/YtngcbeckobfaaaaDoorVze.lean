/- What the walk of the code (Vzf) is put together from. No statement of a claim stands here. -/
import Derived.RangeFuncCalls
import Derived.RangeFuncNested
import Derived.RangeFuncRecord
import Derived.Test.YtngcbeckobfaaaaDoorVzd
set_option linter.unusedSimpArgs false
set_option linter.unusedVariables false
namespace Go.Vi
open Go

def fenceOf : Option Nat → Fence
  | none => Fence.wide
  | some l => Fence.wide.inRound l
theorem fence_fn (r : Option Nat) (f : FuncId) : (fenceOf r).fn f := by cases r <;> trivial
@[simp] theorem fence_round (r : Option Nat) : (fenceOf r).round = r := by cases r <;> rfl
theorem fence_depth (r : Option Nat) {n : Nat} : (fenceOf r).depth.isSome = true → 1 ≤ n := by cases r <;> simp [fenceOf, Fence.wide, Fence.inRound]
theorem calls_fence (r : Option Nat) {n : Nat} {P : Program} {f : FuncId} {args : Array Value} {w : World} {R : Ending → World → Prop} (h : CallsIn Fence.wide n P f args w R) : CallsIn (fenceOf r) n P f args w R := by
  cases r <;> exact h
theorem round_fence (r : Option Nat) {n : Nat} {P : Program} {l : Nat} {f : FuncId} {tmps : Array Value} {x y : Code} {w : World} {R : Ending → World → Prop} (h : RoundIn Fence.wide n P l f tmps x y w R) : RoundIn (fenceOf r) n P l f tmps x y w R := by
  cases r <;> exact h

/-! ### the marks among the deferred calls -/
def Marks (U : Nat → Prop) (w : World) (lo : Nat) : List Deferred → Prop
  | [] => True
  | d :: ds => (∃ r, d = { target := .collected r, args := #[] } ∧ lo ≤ r ∧ U r ∧ w.heap[r]? = some (.deferred (some [])) ∧ ∀ d' ∈ ds, d'.target ≠ .collected r) ∧ Marks U w lo ds
theorem Marks.mono {U U' : Nat → Prop} {w w' : World} {lo lo' : Nat} (hl : lo' ≤ lo) (hU : ∀ b, U b → U' b ∧ w'.heap[b]? = w.heap[b]?) : ∀ {ds : List Deferred}, Marks U w lo ds → Marks U' w' lo' ds
  | [], _ => trivial
  | _ :: _, ⟨⟨r, h1, h2, h3, h4, h5⟩, hr⟩ => ⟨⟨r, h1, Nat.le_trans hl h2, (hU r h3).1, (hU r h3).2.trans h4, h5⟩, hr.mono hl hU⟩
theorem Marks.lt {U : Nat → Prop} {w : World} {lo N : Nat} (hN : ∀ b, U b → b < N) : ∀ {ds : List Deferred}, Marks U w lo ds → ∀ d ∈ ds, ∀ r, d.target = .collected r → r < N
  | [], _ => by simp
  | _ :: _, ⟨⟨r, h1, h2, h3, h4, h5⟩, hr⟩ => by
    intro d hd r' hr'
    rcases List.mem_cons.1 hd with rfl | hd
    · subst h1; simp only [Target.collected.injEq] at hr'; exact hr' ▸ hN r h3
    · exact hr.lt hN d hd r' hr'
theorem Marks.append {U : Nat → Prop} {w : World} {lo lo' : Nat} {ys : List Deferred} (hle : lo ≤ lo') (hy : Marks U w lo ys) (hlt : ∀ d ∈ ys, ∀ r, d.target = .collected r → r < lo') :
    ∀ {xs : List Deferred}, Marks U w lo' xs → Marks U w lo (xs ++ ys)
  | [], _ => hy
  | x :: xs, ⟨⟨r, h1, h2, h3, h4, h5⟩, hr⟩ => by
    refine ⟨⟨r, h1, Nat.le_trans hle h2, h3, h4, fun d hd => ?_⟩, Marks.append hle hy hlt hr⟩
    rcases List.mem_append.1 hd with hd | hd
    · exact h5 d hd
    · intro e; exact absurd (hlt d hd r e) (by omega)

theorem marks_out {P : Program} {fn : Func} {tmps : Array Value} {R : Ending → World → Prop} {U : Nat → Prop} {lo : Nat} : ∀ (ds : List Deferred) (w : World), Marks U w lo ds →
    (∀ w', w'.heap.size = w.heap.size → (w'.os = w.os ∧ w'.output = w.output) → (∀ c, ¬ (U c ∧ lo ≤ c) → w'.heap[c]? = w.heap[c]?) → ∃ v, (results fn tmps).run P w' = .ok v w' ∧ R (.returned v) w') →
    LeavesInM Fence.wide 0 P fn tmps R ds .returning w
  | [], w, _, h => h w rfl ⟨rfl, rfl⟩ (fun _ _ => rfl)
  | d :: ds, w, ⟨⟨r, h1, h2, h3, h4, h5⟩, hr⟩, h => by
    have hlt : r < w.heap.size := by
      rcases Nat.lt_or_ge r w.heap.size with h | h
      · exact h
      · rw [Array.getElem?_eq_none h] at h4; cases h4
    refine ⟨by simp, .inl ⟨r, w.putObj r (.deferred none), by rw [h1], run_takeDeferred h4, ?_⟩⟩
    have hr' : Marks U (w.putObj r (.deferred none)) lo ds := by
      clear h
      induction ds with
      | nil => trivial
      | cons d' ds ih =>
        obtain ⟨⟨r', g1, g2, g3, g4, g5⟩, gr⟩ := hr
        refine ⟨⟨r', g1, g2, g3, ?_, g5⟩, ih (fun x hx => h5 x (List.mem_cons_of_mem _ hx)) gr⟩
        have hne : r' ≠ r := by
          have := h5 d' (List.mem_cons_self ..)
          rw [g1] at this
          intro e; subst e; exact this rfl
        rw [World.putObj_heap_other hne]; exact g4
    refine marks_out ds _ hr' fun w' hs ho hw => h w' (hs.trans (by simp)) ho fun c hc => ?_
    have hcr : c ≠ r := fun e => hc ⟨e ▸ h3, e ▸ h2⟩
    rw [hw c hc, World.putObj_heap_other hcr]

def DefR (r : Option Nat) (U : Nat → Prop) (w w' : World) (a a' : Act) : Prop :=
  match r with
  | none => ∃ new, a'.defers = new ++ a.defers ∧ Marks U w' w.heap.size new
  | some _ => a'.defers = a.defers
theorem DefR.same {r : Option Nat} {U : Nat → Prop} {w w' : World} {a a' : Act} (h : a'.defers = a.defers) : DefR r U w w' a a' := by
  cases r
  · exact ⟨[], h, trivial⟩
  · exact h

/-! ### the temporaries -/
section
variable {P : Program} {chk : Nat → Code → VCode → Bool} {w w' : World} {κ κ' : K} {h h' : H} {G : Globs} {e e' : Env} {a a' : Act} {v : V} {r : Option Nat}

theorem ER.put (E : ER w κ e a.tmps) {d : Option Nat} {x : Value} (hd : ∀ t, d = some t → t < a.tmps.size) (hv : VR w κ v x) : ER w κ (e.put d v) (a.put d x).tmps := by
  cases d with
  | none => exact E
  | some d =>
    intro t u ht
    have hlt := hd d rfl
    simp only [Env.put, alook_cons] at ht
    simp only [Act.put, Array.getD_eq_getD_getElem?]
    by_cases e : d = t
    · subst e
      rw [if_pos rfl] at ht; cases ht
      simpa [Array.getElem?_setIfInBounds_self_of_lt hlt] using hv
    · rw [if_neg e] at ht
      have := E t u ht
      rw [Array.getElem?_setIfInBounds_ne e]
      simpa [Array.getD_eq_getD_getElem?] using this
theorem ER.set (E : ER w κ e a.tmps) {d : Nat} {x : Value} (hd : d < a.tmps.size) (hv : VR w κ v x) : ER w κ ((d, v) :: e) (a.tmps.setIfInBounds d x) :=
  ER.put (d := some d) E (fun t ht => by cases ht; exact hd) hv
theorem alook_mask : ∀ (live : List Nat) {t : Nat}, alook t (Env.mask live e) = some v → alook t e = some v
  | [], t, ht => by simp [Env.mask, alook] at ht
  | l :: live, t, ht => by
    simp only [Env.mask, List.filterMap_cons] at ht
    cases hl : alook l e with
    | none => rw [hl] at ht; exact alook_mask live ht
    | some u =>
      rw [hl] at ht
      simp only [Option.map_some, alook_cons] at ht
      by_cases e : l = t
      · subst e; rw [if_pos rfl] at ht; cases ht; exact hl
      · rw [if_neg e] at ht; exact alook_mask live ht
theorem ER.mask {tmps : Array Value} (E : ER w κ e tmps) (live : List Nat) : ER w κ (Env.mask live e) tmps := fun t _ ht => E t _ (alook_mask live ht)

theorem ER.putL {args : List V} {xs : List Value} (hx : VRL w κ args xs) : ∀ {ts : List Nat} {e : Env} {tmps : Array Value}, ER w κ e tmps → (∀ t ∈ ts, t < tmps.size) → putL e ts args = some e' →
    ts.length = xs.length ∧ ER w κ e' ((ts.zip xs).foldl (fun tmps (t, a) => tmps.setIfInBounds t a) tmps) ∧ ((ts.zip xs).foldl (fun tmps (t, a) => tmps.setIfInBounds t a) tmps).size = tmps.size := by
  induction args generalizing xs with
  | nil =>
    intro ts e tmps E ht hp
    cases hx
    cases ts with
    | nil => simp only [Vi.putL, Option.some.injEq] at hp; subst hp; exact ⟨rfl, E, rfl⟩
    | cons _ _ => simp [Vi.putL] at hp
  | cons v vs ih =>
    intro ts e tmps E ht hp
    cases hx with
    | cons _ _ x xs hv hr =>
      cases ts with
      | nil => simp [Vi.putL] at hp
      | cons t ts =>
        simp only [Vi.putL] at hp
        have E1 : ER w κ ((t, v) :: e) (tmps.setIfInBounds t x) := ER.set (a := { tmps := tmps, defers := [] }) E (ht t (List.mem_cons_self ..)) hv
        obtain ⟨h1, h2, h3⟩ := ih hr E1 (fun u hu => by simpa using ht u (List.mem_cons_of_mem _ hu)) hp
        exact ⟨by simp [h1], h2, by simpa using h3⟩

theorem alook_bind : ∀ (args : List V) (i t : Nat), alook t (bindArgs i args) = some v → i ≤ t ∧ args[t - i]? = some v
  | [], i, t, h => by simp [bindArgs, alook] at h
  | u :: us, i, t, h => by
    simp only [bindArgs, alook_cons] at h
    by_cases e : i = t
    · subst e; rw [if_pos rfl] at h; cases h; simp
    · rw [if_neg e] at h
      obtain ⟨a, b⟩ := alook_bind us (i + 1) t h
      refine ⟨by omega, ?_⟩
      have : t - i = (t - (i + 1)) + 1 := by omega
      rw [this]; simpa using b
theorem ER.bind {args : List V} {xs : List Value} (hx : VRL w κ args xs) (n : Nat) : ER w κ (bindArgs 0 args) ((⟨xs⟩ : Array Value) ++ Array.replicate n undef) := by
  intro t v ht
  obtain ⟨_, hb⟩ := alook_bind args 0 t ht
  obtain ⟨x, hx1, hx2⟩ := hx.get hb
  have hlt : t < xs.length := (List.getElem?_eq_some_iff.1 (by simpa using hx1)).1
  have : ((⟨xs⟩ : Array Value) ++ Array.replicate n undef).getD t undef = x := by
    rw [Array.getD_eq_getD_getElem?, Array.getElem?_append_left (by simpa using hlt)]
    simp only [Nat.sub_zero] at hx1
    simp [hx1]
  rw [this]; exact hx2

/-! ### results -/
def resVal (tmps : Array Value) : ResultVar → Sem Value
  | .tmp t => pure (tmps.getD t undef)
  | .cell a t => do loadVar t (← asAddr (tmps.getD a undef))
theorem results_eq (fn : Func) (tmps : Array Value) : results fn tmps = (do let vs ← fn.results.mapM (resVal tmps); pure (if h : vs.size = 1 then vs[0] else .tuple vs)) := by
  have : (fun (r : ResultVar) => (match r with
    | .tmp t => pure (tmps.getD t undef)
    | .cell a t => do loadVar t (← asAddr (tmps.getD a undef)) : Sem Value)) = resVal tmps := by funext r; cases r <;> rfl
  rw [← this]; rfl
theorem results_list (R : Rel chk κ h w) {tmps : Array Value} (E : ER w κ e tmps) : ∀ {rs : List ResultVar} {vs : List VRes} {us : List V}, all2 (resOk P) rs vs = true → ressOf e h vs = some us →
    ∃ xs, (rs.mapM (resVal tmps)).run P w = .ok xs w ∧ VRL w κ us xs := by
  intro rs
  induction rs with
  | nil =>
    intro vs us hc hr
    cases vs with
    | nil => simp only [ressOf, Option.some.injEq] at hr; subst hr; exact ⟨[], by simp, .nil⟩
    | cons _ _ => simp [all2] at hc
  | cons r rs ih =>
    intro vs us hc hr
    cases vs with
    | nil => simp [all2] at hc
    | cons q vs =>
      simp only [all2, Bool.and_eq_true] at hc
      simp only [ressOf, Option.bind_eq_bind, Option.bind_eq_some_iff, Option.some.injEq] at hr
      obtain ⟨u, hu, us', hus, rfl⟩ := hr
      obtain ⟨xs, hxs, hl⟩ := ih hc.2 hus
      have key : ∃ x, (resVal tmps r).run P w = .ok x w ∧ VR w κ u x := by
        have h1 := hc.1
        cases r <;> cases q <;> simp only [resOk, Bool.and_eq_true, Nat.beq_eq, decide_eq_true_eq, Bool.false_eq_true, reduceCtorEq] at h1
        · subst h1
          exact ⟨_, rfl, E _ _ hu⟩
        · obtain ⟨rfl, hs⟩ := h1
          simp only [resOf] at hu
          split at hu
          · rename_i b o hb
            split at hu
            · rename_i cs hg
              obtain ⟨_, hx⟩ := (E _ _ hb).ptr_inv
              obtain ⟨ys, ty, hB, hcl⟩ := (R.obj _ _ hg).2
              obtain ⟨y, hy, hvr⟩ := load_block (P := P) hB hcl hs hu
              exact ⟨y, by simp [resVal, hx, asAddr, hy], hvr⟩
            · cases hu
          · cases hu
      obtain ⟨x, hx, hvr⟩ := key
      refine ⟨x :: xs, ?_, .cons _ _ _ _ hvr hl⟩
      rw [List.mapM_cons]
      simp [hx, hxs]
theorem pack_sound {us : List V} {xs : List Value} (hl : VRL w κ us xs) : VR w κ (pack us) (if h : (⟨xs⟩ : Array Value).size = 1 then (⟨xs⟩ : Array Value)[0] else .tuple ⟨xs⟩) := by
  cases hl with
  | nil => exact .tuple _ _ .nil
  | cons v vs x xs hv hr =>
    cases hr with
    | nil => exact hv
    | cons v' vs' x' xs' hv' hr' => exact .tuple _ _ (.cons _ _ _ _ hv (.cons _ _ _ _ hv' hr'))
theorem results_sound (R : Rel chk κ h w) {tmps : Array Value} (E : ER w κ e tmps) {fn : Func} {vs : List VRes} {us : List V} (hc : all2 (resOk P) fn.results.toList vs = true) (hr : ressOf e h vs = some us) :
    ∃ x, (results fn tmps).run P w = .ok x w ∧ VR w κ (pack us) x := by
  obtain ⟨xs, hxs, hl⟩ := results_list (P := P) R E hc hr
  have hm : (fn.results.mapM (resVal tmps)).run P w = .ok ⟨xs⟩ w := by
    rw [Array.mapM_eq_mapM_toList]
    simp [hxs]
  have hd : (results fn tmps).run P w = .ok (if h : (⟨xs⟩ : Array Value).size = 1 then (⟨xs⟩ : Array Value)[0] else .tuple ⟨xs⟩) w := by
    rw [results_eq]
    simp only [Sem.run_bind, hm, Result.andThen_ok, Sem.run_pure]
  exact ⟨_, hd, pack_sound hl⟩

/-! ### a framed block -/
theorem Rel.push_framed (R : Rel chk κ h w) (o : Obj) : Ext κ w { κ with U := fun b => κ.U b ∨ b = w.heap.size } (push w o) ∧ Rel chk { κ with U := fun b => κ.U b ∨ b = w.heap.size } h (push w o) := by
  have X : Ext κ w { κ with U := fun b => κ.U b ∨ b = w.heap.size } (push w o) := R.ext_push _ (Nat.le_refl _) (fun _ _ => rfl) (fun _ _ => rfl) (fun _ _ hs => hs) (fun _ hu => .inl hu)
  have hh : ∀ i q, home { κ with U := fun b => κ.U b ∨ b = w.heap.size } i q = home κ i q := fun i q => by cases q <;> rfl
  refine ⟨X, R.n, ?_, ?_, ?_, ?_, ?_, ?_, ?_, fun b hb => .inl (R.bu b hb)⟩
  · intro i q hg
    exact ⟨(R.obj i q hg).1, (R.obj i q hg).2.mono X (by rw [R.n]; exact (R.obj i q hg).1) rfl (fun ho => push_old w o ((R.obj i q hg).2.home_lt ho))⟩
  · intro i j q p hi hj hne hq hp; rw [hh, hh]; exact R.homes i j q p hi hj hne hq hp
  · intro i q hg B off hs hf
    exact R.sdis i q hg B off hs (by cases q <;> exact hf)
  · intro i q hg hq hu
    rw [hh] at hu
    rcases hu with hu | hu
    · exact R.udis i q hg hq hu
    · have := (R.obj i q hg).2.home_lt hq; omega
  · intro B off hs; rw [push_size]; exact Nat.lt_succ_of_lt (R.slt B off hs)
  · rintro b (hu | rfl)
    · rw [push_size]; exact Nat.lt_succ_of_lt (R.ult b hu)
    · rw [push_size]; exact Nat.lt_succ_self _
  · rintro b off (hu | rfl) hs
    · exact R.us b off hu hs
    · exact absurd (R.slt _ _ hs) (Nat.lt_irrefl _)

/-- a loop's record is written -/
theorem Rel.put_loop (R : Rel chk κ h w) {l : Nat} {q : LoopRec} (hg : h.get l = some (.loop q)) {o : Obj} {p : HObj} (hp : (∃ q', p = .loop q') ∨ p = .dead)
    (hr : Ext κ w κ (w.putObj (κ.mu l) o) → ObjR chk (w.putObj (κ.mu l) o) κ l p) : Ext κ w κ (w.putObj (κ.mu l) o) ∧ Rel chk κ (h.set l p) (w.putObj (κ.mu l) o) := by
  refine R.write hg rfl (by rcases hp with ⟨q', rfl⟩ | rfl <;> rfl) ?_ (fun c hc => World.putObj_heap_other hc) (by simp) ?_ hr
  · intro B off hf
    rcases hp with ⟨q', rfl⟩ | rfl
    · exact hf
    · exact hf.elim
  · intro B off hs
    refine cell_of_heap (World.putObj_heap_other fun e => ?_) off
    exact R.sdis l _ hg B off hs e

theorem Rel.low (R : Rel chk κ h w) (m : Nat) : Rel chk κ { h with low := m } w := ⟨R.n, R.obj, R.homes, R.sdis, R.udis, R.slt, R.ult, R.us, R.bu⟩
end
end Go.Vi
