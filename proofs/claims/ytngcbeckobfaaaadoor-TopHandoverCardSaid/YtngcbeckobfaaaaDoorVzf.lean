/- The walk: whatever the plain reading comes to, the machine comes to (ordered regions, statements, calls, rounds). No statement of a claim stands here. -/
import Derived.Test.YtngcbeckobfaaaaDoorVze
set_option linter.unusedSimpArgs false
set_option linter.unusedVariables false
namespace Go.Vi
open Go

def X.go : X → Exit
  | .normal => .normal
  | .ret => .ret
  | .exit id => .exit id

structure St (P : Program) (G : Globs) (r : Option Nat) (nt : Nat) (κ : K) (w : World) (a : Act) (e : Env) (h : H) : Prop where
  rel : Rel (chkCode P) κ h w
  er : ER w κ e a.tmps
  gr : GR w κ G
  size : a.tmps.size = nt
  round : ∀ l, r = some l → l < κ.n

structure ToK (P : Program) (r : Option Nat) (nt : Nat) (κ : K) (w : World) (a : Act) (e' : Env) (h' : H) (a' : Act) (w' : World) (κ' : K) : Prop where
  ext : Ext κ w κ' w'
  rel : Rel (chkCode P) κ' h' w'
  er : ER w' κ' e' a'.tmps
  size : a'.tmps.size = nt
  defs : DefR r κ'.U w w' a a'

def To (P : Program) (r : Option Nat) (nt : Nat) (κ : K) (w : World) (a : Act) (e' : Env) (h' : H) (a' : Act) (w' : World) : Prop := ∃ κ', ToK P r nt κ w a e' h' a' w' κ'
def Fin (P : Program) (r : Option Nat) (nt : Nat) (κ : K) (w : World) (a : Act) (x : X) (e' : Env) (h' : H) : Exit → Act → World → Prop :=
  fun x' a' w' => x' = x.go ∧ To P r nt κ w a e' h' a' w'

section
variable {P : Program} {G : Globs} {r : Option Nat} {nt : Nat} {κ κ' κ'' : K} {w w' w'' : World} {a a' a'' : Act} {e e' e'' : Env} {h h' h'' : H}

theorem St.next (S : St P G r nt κ w a e h) (T : ToK P r nt κ w a e' h' a' w' κ') : St P G r nt κ' w' a' e' h' :=
  ⟨T.rel, T.er, S.gr.mono T.ext, T.size, fun l hl => Nat.lt_of_lt_of_le (S.round l hl) T.ext.n⟩
theorem St.fence (S : St P G r nt κ w a e h) (X : Ext κ w κ' w') : r.map κ'.mu = r.map κ.mu := by
  cases r with
  | none => rfl
  | some l => simp [X.mu l (S.round l rfl)]
theorem St.to (S : St P G r nt κ w a e h) : ToK P r nt κ w a e h a w κ := ⟨.refl _ _, S.rel, S.er, S.size, .same rfl⟩
theorem ToK.trans (T : ToK P r nt κ w a e' h' a' w' κ') (S : Rel (chkCode P) κ h w) (U : ToK P r nt κ' w' a' e'' h'' a'' w'' κ'') : ToK P r nt κ w a e'' h'' a'' w'' κ'' := by
  refine ⟨T.ext.trans U.ext, U.rel, U.er, U.size, ?_⟩
  have d1 := T.defs; have d2 := U.defs
  cases r with
  | none =>
    obtain ⟨n1, e1, m1⟩ := d1
    obtain ⟨n2, e2, m2⟩ := d2
    exact ⟨n2 ++ n1, by rw [e2, e1, List.append_assoc], Marks.append T.ext.size (m1.mono (Nat.le_refl _) U.ext.U) (m1.lt T.rel.ult) m2⟩
  | some _ => exact Eq.trans d2 d1
theorem To.trans (T : ToK P r nt κ w a e' h' a' w' κ') (S : Rel (chkCode P) κ h w) (U : To P r nt κ' w' a' e'' h'' a'' w'') : To P r nt κ w a e'' h'' a'' w'' :=
  let ⟨k, u⟩ := U; ⟨k, T.trans S u⟩
theorem ToK.mask (T : ToK P r nt κ w a e' h' a' w' κ') (live : List Nat) : ToK P r nt κ w a (Env.mask live e') h' a' w' κ' := ⟨T.ext, T.rel, T.er.mask live, T.size, T.defs⟩

/-- a loop whose body is about to be walked -/
def LoopIn (F : Fence) (n : Nat) (P : Program) (c : Code) (Q : Exit → Act → World → Prop) (a : Act) (w : World) : Prop :=
  ∀ (b : Frame) (k : List Item) (cs : List Frame), b.roundOf = F.round → F.fn b.fn → F.room (cs.length + 1 + n) →
    ∃ e a' w', Q e a' w' ∧ ArrivesIn (Machine.fenced P F) P (lone (b.atR a (.code c :: .inLoop c :: k)) cs w) b k cs e a' w'
theorem LoopIn.wp {F : Fence} {n : Nat} {c : Code} {Q : Exit → Act → World → Prop} (hl : LoopIn F n P c Q a w) : (Code.loop c).wpIn F n P Q a w := by
  intro b k cs hro hb hr
  obtain ⟨e, a', w', hq, harr⟩ := hl b k cs hro hb hr
  exact ⟨e, a', w', hq, .of_steps (.one (fenced_calm hb hr rfl) stepR_loop) harr⟩
theorem LoopIn.step {F : Fence} {n : Nat} {c : Code} {Q : Exit → Act → World → Prop} (hc : c.wpIn F n P (Exit.then (LoopIn F n P c Q) Q) a w) : LoopIn F n P c Q a w := by
  intro b k cs hro hb hr
  obtain ⟨e, a₁, w₁, hq, harr⟩ := hc b (.inLoop c :: k) cs hro hb hr
  cases e with
  | normal =>
    obtain ⟨e₂, a₂, w₂, hq₂, harr₂⟩ := hq b k cs hro hb hr
    exact ⟨e₂, a₂, w₂, hq₂, .of_steps (StepsIn.trans harr (.one (fenced_calm hb hr rfl) stepR_inLoop)) harr₂⟩
  | exit id => exact ⟨_, a₁, w₁, hq, .pass (x := .inLoop c) rfl (fun _ _ => .inl (by simp)) harr⟩
  | goto l => exact ⟨_, a₁, w₁, hq, .pass (x := .inLoop c) rfl (fun _ _ => .inl (by simp)) harr⟩
  | ret => exact ⟨_, a₁, w₁, hq, .pass (x := .inLoop c) rfl (fun _ _ => .inl (by simp)) harr⟩
  | panic ch => exact ⟨_, a₁, w₁, hq, .pass (x := .inLoop c) rfl (fun _ _ => .inl (by simp)) harr⟩
  | outgrown => exact ⟨_, a₁, w₁, hq, .pass (x := .inLoop c) rfl (fun _ _ => .inl (by simp)) harr⟩

theorem stepR_scope' {b : Frame} {k : List Item} {cs : List Frame} {c : Code} : Go.step P (lone (b.atR a (.code (.scope c) :: k)) cs w) = .next (lone (b.atR a (.code c :: .inScope c :: k)) cs w) :=
  step_lone_go (by simp [stepG, stepG.exec, Frame.atR])
theorem stepR_inScope' {b : Frame} {k : List Item} {cs : List Frame} {c : Code} : Go.step P (lone (b.atR a (.inScope c :: k)) cs w) = .next (lone (b.atR a k) cs w) :=
  step_lone_go (by simp [stepG, stepG.exec, Frame.atR])
/-- a scope that no jump is made in -/
theorem wpIn_scope' {F : Fence} {n : Nat} {c : Code} {Q : Exit → Act → World → Prop} (hq' : ∀ l a w, ¬ Q (.goto l) a w) (hc : c.wpIn F n P Q a w) : (Code.scope c).wpIn F n P Q a w := by
  intro b k cs hro hb hr
  have h0 : (lone (b.atR a (.code (.scope c) :: k)) cs w).fenced P F := fenced_calm hb hr rfl
  obtain ⟨e, a₁, w₁, hq, harr⟩ := hc b (.inScope c :: k) cs hro hb hr
  cases e with
  | normal => exact ⟨.normal, a₁, w₁, hq, .head h0 stepR_scope' (StepsIn.trans harr (.one (fenced_calm hb hr rfl) stepR_inScope'))⟩
  | exit id =>
    have hx : exitTo id (.inScope c :: k) = exitTo id k := by simp [exitTo]
    exact ⟨_, a₁, w₁, hq, fun k' hk => .head h0 stepR_scope' (harr.1 k' (by rw [hx]; exact hk)),
      fun hr' hk => let ⟨k₁, h1, h2⟩ := harr.2 hr' (by rw [hx]; exact hk); ⟨k₁, h1, .head h0 stepR_scope' h2⟩⟩
  | goto l => exact (hq' _ _ _ hq).elim
  | ret => exact ⟨_, a₁, w₁, hq, .of_steps (.one h0 stepR_scope') harr⟩
  | panic ch => exact ⟨_, a₁, w₁, hq, .of_steps (.one h0 stepR_scope') harr⟩
  | outgrown => exact ⟨_, a₁, w₁, hq, .of_steps (.one h0 stepR_scope') harr⟩

/-- a call comes back with v -/
def Back (P : Program) (κ : K) (w : World) (v : V) (h' : H) (e : Ending) (w' : World) : Prop :=
  ∃ x κ', e = .returned x ∧ Ext κ w κ' w' ∧ Rel (chkCode P) κ' h' w' ∧ VR w' κ' v x

def Enters (P : Program) (f : Nat) : Prop := ∃ fn, P.funcs[f]? = some fn ∧ fn.body.isNone = false ∧ (fn.name == "runtime.NumGoroutine") = false

def Sound (P : Program) (G : Globs) : Task → Res → Prop
  | .code r c e h, .exit x e' h' => ∀ code nt κ a w, chkCode P nt code c = true → St P G r nt κ w a e h →
      code.wpIn (fenceOf (r.map κ.mu)) 0 P (Fin P r nt κ w a x e' h') a w ∧
      ∀ c', code = .loop c' → LoopIn (fenceOf (r.map κ.mu)) 0 P c' (Fin P r nt κ w a x e' h') a w
  | .call f args h, .ret v h' _ => Enters P f ∧ ∀ κ w xs, Rel (chkCode P) κ h w → GR w κ G → VRL w κ args xs → CallsIn Fence.wide 0 P f ⟨xs⟩ w (Back P κ w v h')
  | .yield l args h, .ret v h' _ => ∀ κ w xs, Rel (chkCode P) κ h w → GR w κ G → VRL w κ args xs → l < κ.n → ∃ L : Loop, w.heap[κ.mu l]? = some (.loop L) ∧ xs.length = L.params.size ∧
      RoundIn Fence.wide 0 P (κ.mu l) L.fn ((L.params.zip ⟨xs⟩).foldl (fun tmps (t, a) => tmps.setIfInBounds t a) L.tmps) L.assign L.body w (Back P κ w v h')
  | _, _ => True

theorem run_callFunc {f : Nat} (he : Enters P f) (args : Array Value) : (callFunc f args).run P w = .ok (.enter f args) w := by
  obtain ⟨fn, h1, h2, h3⟩ := he
  simp only [callFunc, Sem.run_bind, run_program, Result.andThen_ok, h1, h2, h3, Bool.false_eq_true, if_false, Sem.run_pure]

variable {rec : Task → Option Res} {ro : Option Nat} {o : Oper} {vo : VOp} {v : V} {Q : Exit → Act → World → Prop}

theorem runOp_sound (hrec : ∀ t r, rec t = some r → Sound P G t r) (hR : Rel (chkCode P) κ h w) (hE : ER w κ e a.tmps) (hG : GR w κ G) (hc : chkOp P o.op vo = true) (hv : runOp rec G e h vo = some (v, h'))
    {K : Act → World → Prop} (hK : ∀ κ' w' x, Ext κ w κ' w' → Rel (chkCode P) κ' h' w' → VR w' κ' v x → K (a.put o.dst x) w') : o.wpIn (fenceOf ro) 0 P a w K Q := by
  have hnd : ∀ c, o.op ≠ .defer c := by
    intro c hd
    rw [hd] at hc
    cases vo <;> simp [chkOp] at hc
    simp [runOp, ev] at hv
  refine ⟨fun f _ => fence_fn _ f, ?_⟩
  rw [Oper.semAt_eq _ _ _ hnd]
  by_cases hcall : ∃ p f as, vo = .call p f as
  · obtain ⟨p, f, as, rfl⟩ := hcall
    simp only [runOp, Option.bind_eq_bind, Option.bind_eq_some_iff] at hv
    obtain ⟨fv, hf, avs, has, ⟨v1, h1, p1⟩, hcal, hv⟩ := hv
    have hv' : v1 = v ∧ h1 = h' := by
      split at hv
      · cases hv
      · simpa using hv
    obtain ⟨rfl, rfl⟩ := hv'
    generalize hop : o.op = op at hc
    cases op <;> simp only [chkOp] at hc <;> try (cases hc; done)
    rename_i c
    obtain ⟨cal, args, tys⟩ := c
    cases cal <;> (try simp only [chkOp] at hc) <;> try (cases hc; done)
    · rename_i g
      simp only [Bool.and_eq_true] at hc
      have hfv := opd_sound hG hE hc.1 hf
      have hav := vals_sound hG hE hc.2 has
      have harr : args.map a.eval = ⟨args.toList.map a.eval⟩ := by apply Array.ext'; simp
      unfold callee at hcal
      split at hcal
      · rename_i g' first caps
        obtain ⟨xa, xc, hx, ha, hcx⟩ := hfv.func_inv
        split at hcal
        · rename_i v2 h2 p2 hr
          simp only [Option.some.injEq, Prod.mk.injEq] at hcal
          obtain ⟨rfl, rfl, rfl⟩ := hcal
          obtain ⟨hent, hcalls⟩ := hrec _ _ hr
          have hrun : (execOp a.eval o).run P w = .ok (.enter g' ⟨xa ++ args.toList.map a.eval ++ xc⟩) w := by
            simp only [execOp, hop, Sem.run_bind, resolve, hx, Deferred.ofValue, Sem.run_pure, Result.andThen_ok, invoke, harr]
            rw [run_callFunc hent]
            simp
          rw [hrun, Oper.uponIn_enter]
          refine ⟨fence_depth _, calls_fence _ ((hcalls κ w _ hR hG ((ha.append hav).append hcx)).mono ?_)⟩
          rintro e' w' ⟨x, κ', rfl, X, R', V⟩
          exact hK _ _ _ X R' V
        · cases hcal
      · rename_i l
        obtain ⟨hl, hx⟩ := hfv.yield_inv
        split at hcal
        · rename_i v2 h2 p2 hr
          simp only [Option.some.injEq, Prod.mk.injEq] at hcal
          obtain ⟨rfl, rfl, rfl⟩ := hcal
          obtain ⟨L, hL, hlen, hround⟩ := hrec _ _ hr κ w _ hR hG hav hl
          have hrun : (execOp a.eval o).run P w = .ok (.round (κ.mu l) L.fn ((L.params.zip ⟨args.toList.map a.eval⟩).foldl (fun tmps (t, a) => tmps.setIfInBounds t a) L.tmps) L.assign L.body) w := by
            simp only [execOp, hop, Sem.run_bind, resolve, hx, Deferred.ofValue, Sem.run_pure, Result.andThen_ok, invoke, harr]
            rw [show (#[] : Array Value) ++ (⟨args.toList.map a.eval⟩ : Array Value) = ⟨args.toList.map a.eval⟩ by apply Array.ext'; simp]
            exact run_yield hL (by simpa using hlen)
          rw [hrun, Oper.uponIn_round]
          refine ⟨fence_depth _, round_fence _ (hround.mono ?_)⟩
          rintro e' w' ⟨x, κ', rfl, X, R', V⟩
          exact hK _ _ _ X R' V
        · cases hcal
      · cases hcal
  · have hv' : ev G e h vo = some (v, h') := by
      unfold runOp at hv
      split at hv
      · exact absurd ⟨_, _, _, rfl⟩ hcall
      · exact hv
    obtain ⟨κ', w', x, hr, X, R', V⟩ := ev_sound hG hE hR hc hv'
    rcases hr with hr | ⟨hr, rfl⟩
    · rw [hr]; exact hK _ _ _ X R' V
    · rw [hr]; exact hK _ _ _ X R' V

theorem dstOk_lt {d d' : Option Nat} (h : dstOk nt d d' = true) : d = d' ∧ ∀ t, d' = some t → t < nt := by
  cases d <;> cases d' <;> simp only [dstOk, Bool.and_eq_true, Nat.beq_eq, Bool.false_eq_true] at h
  · exact ⟨rfl, fun t ht => by cases ht⟩
  · obtain ⟨rfl, h2⟩ := h
    exact ⟨rfl, fun t ht => by cases ht; exact blt_true h2⟩

theorem guard_sound {ops : Array Oper} {vg : Option (Nat × Bool)} (hg : guardOk ops o.guard vg = true) (hE : ER w κ e a.tmps) {b : Bool} (hb : guarded e vg = some b) : Region.wanted o (yielded ops a.tmps) = b := by
  unfold Region.wanted
  cases ho : o.guard with
  | none =>
    rw [ho] at hg
    cases vg with
    | none => simp only [guarded, Option.some.injEq] at hb; exact hb
    | some _ => simp [guardOk] at hg
  | some jb =>
    obtain ⟨j, want⟩ := jb
    rw [ho] at hg
    cases vg with
    | none => simp [guardOk] at hg
    | some tc =>
      obtain ⟨t, c⟩ := tc
      simp only [guardOk, Bool.and_eq_true, beq_iff_eq] at hg
      obtain ⟨rfl, hg⟩ := hg
      split at hg
      · rename_i oj hoj
        simp only [decide_eq_true_eq] at hg
        simp only [guarded] at hb
        split at hb
        · rename_i y hy
          simp only [Option.some.injEq] at hb
          have hx := (hE _ _ hy).bool_inv
          have ht : a.tmps[t]? = some (.bool y) := by
            rw [Array.getD_eq_getD_getElem?] at hx
            cases hq : a.tmps[t]? with
            | none => rw [hq] at hx; simp [undef] at hx
            | some q => rw [hq] at hx; simp at hx; rw [hx]
          have : yielded ops a.tmps j = some y := by simp [yielded, hoj, hg, ht]
          show (yielded ops a.tmps j == some want) = b
          rw [this, ← hb]
          cases y <;> cases want <;> rfl
        · rename_i hy
          simp only [Option.some.injEq] at hb
          have hx := hE _ _ hy
          have : yielded ops a.tmps j = none := by
            have hx' : a.tmps.getD t undef = .tuple ⟨[]⟩ := by
              generalize a.tmps.getD t undef = x at hx
              cases hx with
              | tuple vs xs hl => cases hl; rfl
            rw [Array.getD_eq_getD_getElem?] at hx'
            cases hq : a.tmps[t]? with
            | none => simp [yielded, hoj, hg, hq]
            | some q =>
              rw [hq] at hx'
              simp at hx'
              simp [yielded, hoj, hg, hq, hx']
          show (yielded ops a.tmps j == some want) = b
          rw [this, ← hb]
          rfl
        · cases hb
      · cases hg

/-- one operation of a region -/
theorem oper_sound (hrec : ∀ t r, rec t = some r → Sound P G t r) {ops : Array Oper} {i : Nat} (hi : ops[i]? = some o) {q : VO} (hq : operOk P nt ops o q = true) (S : St P G r nt κ w a e h) {b : Bool} (hb : guarded e q.guard = some b)
    (hv : if b then runOp rec G e h q.op = some (v, h') else v = .tuple [] ∧ h' = h) {K : Act → World → Prop}
    (hK : ∀ κ' w' a', ToK P r nt κ w a (e.put q.dst v) h' a' w' κ' → K a' w') : wpOpIn (fenceOf ro) 0 P ops Q i K a w := by
  simp only [operOk, Bool.and_eq_true] at hq
  obtain ⟨⟨h1, h2⟩, h3⟩ := hq
  obtain ⟨hd, hlt⟩ := dstOk_lt h1
  unfold wpOpIn
  simp only [hi, guard_sound h2 S.er hb]
  have fin : ∀ κ' w' x, Ext κ w κ' w' → Rel (chkCode P) κ' h' w' → VR w' κ' v x → K (a.put o.dst x) w' := by
    intro κ' w' x X R' V
    refine hK κ' w' _ ⟨X, R', ?_, ?_, ?_⟩
    · rw [hd]; exact ER.put (S.er.mono X) (fun t ht => by rw [S.size]; exact hlt t ht) V
    · rw [← S.size]; cases o.dst <;> simp [Act.put]
    · exact .same (by cases o.dst <;> rfl)
  cases b with
  | true => simp only [if_true] at hv ⊢; exact runOp_sound hrec S.rel S.er S.gr h3 hv fin
  | false =>
    simp only [Bool.false_eq_true, if_false] at hv ⊢
    obtain ⟨rfl, rfl⟩ := hv
    exact ⟨fun f _ => fence_fn _ f, fin κ w undef (.refl _ _) S.rel (.tuple [] [] .nil)⟩

theorem ops_sound (hrec : ∀ t r, rec t = some r → Sound P G t r) {ops : Array Oper} {all : List VO} : ∀ (os : List Oper) (vs : List VO) (i : Nat) {κ : K} {w : World} {a : Act} {e e' : Env} {h h' : H}, (∀ j x, os[j]? = some x → ops[i + j]? = some x) →
    all2 (operOk P nt ops) os vs = true → St P G r nt κ w a e h → runOps rec G all vs e h = some (e', h') → (∀ a' w', To P r nt κ w a e' h' a' w' → Q .normal a' w') →
    wpOpsIn (fenceOf ro) 0 P ops Q (List.range' i os.length) a w
  | [], vs, i, κ, w, a, e, e', h, h', hi, hc, S, hv, hQ => by
    cases vs with
    | nil =>
      simp only [runOps, Option.some.injEq, Prod.mk.injEq] at hv
      obtain ⟨rfl, rfl⟩ := hv
      exact hQ a w ⟨κ, S.to⟩
    | cons _ _ => simp [all2] at hc
  | o :: os, vs, i, κ, w, a, e, e', h, h', hi, hc, S, hv, hQ => by
    cases vs with
    | nil => simp [all2] at hc
    | cons q vs =>
      simp only [all2, Bool.and_eq_true] at hc
      rw [List.length_cons, List.range'_succ, wpOpsIn_cons]
      have hio : ops[i]? = some o := by simpa using hi 0 o rfl
      have hrest : ∀ j x, os[j]? = some x → ops[i + 1 + j]? = some x := fun j x hx => by
        have := hi (j + 1) x (by simpa using hx)
        rw [show i + 1 + j = i + (j + 1) by omega]; exact this
      simp only [runOps] at hv
      split at hv
      · cases hv
      · rename_i hb
        refine oper_sound (v := .tuple []) (h' := h) hrec hio hc.1 S hb (by simp) fun κ' w' a' T => ?_
        exact ops_sound hrec os vs (i + 1) hrest hc.2 (S.next T) hv fun a'' w'' U => hQ _ _ (To.trans T S.rel U)
      · rename_i hb
        split at hv
        · cases hv
        · rename_i v h1 hr
          split at hv
          · refine oper_sound (v := v) (h' := h1) hrec hio hc.1 S hb (by simpa using hr) fun κ' w' a' T => ?_
            exact ops_sound hrec os vs (i + 1) hrest hc.2 (S.next T) hv fun a'' w'' U => hQ _ _ (To.trans T S.rel U)
          · cases hv
end
end Go.Vi
