/- The walk as a whole: statements, then the induction on the rounds. No statement of a claim stands here. -/
import Derived.Test.YtngcbeckobfaaaaDoorVzg
set_option linter.unusedSimpArgs false
set_option linter.unusedVariables false
namespace Go.Vi
open Go

section
variable {P : Program} {G : Globs} {r : Option Nat} {nt : Nat} {κ κ' κ'' : K} {w w' w'' : World} {a a' a'' : Act} {e e' e'' : Env} {h h' h'' : H}
variable {FN : Prog} {rec : Task → Option Res}

abbrev CodeOK (P : Program) (G : Globs) (r : Option Nat) (c : VCode) (e : Env) (h : H) (x : X) (e' : Env) (h' : H) : Prop :=
  ∀ code nt κ a w, chkCode P nt code c = true → St P G r nt κ w a e h →
      code.wpIn (fenceOf (r.map κ.mu)) 0 P (Fin P r nt κ w a x e' h') a w ∧
      ∀ c', code = .loop c' → LoopIn (fenceOf (r.map κ.mu)) 0 P c' (Fin P r nt κ w a x e' h') a w

theorem Fin.goto {x : X} {l : Nat} : ¬ Fin P r nt κ w a x e' h' (.goto l) a' w' := by
  rintro ⟨hx, _⟩; cases x <;> cases hx

theorem Fin.normal (S : St P G r nt κ w a e h) {x : X} {Q : Exit → Act → World → Prop} {Q1 : Exit → Act → World → Prop} (h1 : ∀ e a w, Q1 e a w → Q e a w) (hq : Q1 x.go a w) : Q x.go a w := h1 _ _ _ hq

/-- one code against the plain one it belongs to; scopes are passed through -/
theorem unscope {c : VCode} {x : X} (hc : ∀ code nt κ a w, chkCode P nt code c = true → (∀ c', code ≠ .scope c') → St P G r nt κ w a e h →
      code.wpIn (fenceOf (r.map κ.mu)) 0 P (Fin P r nt κ w a x e' h') a w ∧
      ∀ c', code = .loop c' → LoopIn (fenceOf (r.map κ.mu)) 0 P c' (Fin P r nt κ w a x e' h') a w) : CodeOK P G r c e h x e' h' := by
  intro code
  induction code with
  | scope b ih =>
    intro nt κ a w hk S
    have hk' : chkCode P nt b c = true := by
      cases c <;> simpa only [chkCode] using hk
    exact ⟨wpIn_scope' (fun _ _ _ => Fin.goto) (ih nt κ a w hk' S).1, fun c' h => by cases h⟩
  | _ => intro nt κ a w hk S; exact hc _ nt κ a w hk (fun c' h => by cases h) S

theorem code_sound (hrec : ∀ t r, rec t = some r → Sound P G t r) (hkeep : ∀ t r, rec t = some r → KeepsT t r) {c : VCode} {res : Res} (hs : step G FN rec (.code r c e h) = some res) : Sound P G (.code r c e h) res := by
  cases c with
  | skip =>
    simp only [step, Option.some.injEq] at hs
    subst hs
    refine unscope fun code nt κ a w hk hns S => ⟨?_, fun c' hl => by subst hl; simp [chkCode] at hk⟩
    cases code <;> simp only [chkCode, Bool.false_eq_true] at hk
    · exact wpIn_skip ⟨rfl, κ, S.to⟩
    · exact absurd rfl (hns _)
    · exact wpIn_label ⟨rfl, κ, S.to⟩
  | ret =>
    simp only [step, Option.some.injEq] at hs
    subst hs
    refine unscope fun code nt κ a w hk hns S => ⟨?_, fun c' hl => by subst hl; simp [chkCode] at hk⟩
    cases code <;> simp only [chkCode, Bool.false_eq_true] at hk
    · exact absurd rfl (hns _)
    · exact wpIn_ret ⟨rfl, κ, S.to⟩
  | exit id =>
    simp only [step, Option.some.injEq] at hs
    subst hs
    refine unscope fun code nt κ a w hk hns S => ⟨?_, fun c' hl => by subst hl; simp [chkCode] at hk⟩
    cases code <;> simp only [chkCode, Bool.false_eq_true] at hk
    · rw [Nat.beq_eq] at hk; subst hk; exact wpIn_exit ⟨rfl, κ, S.to⟩
    · exact absurd rfl (hns _)
  | seq x y =>
    simp only [step] at hs
    cases res with
    | ret => trivial
    | exit z e' h' =>
    refine unscope fun code nt κ a w hk hns S => ⟨?_, fun c' hl => by subst hl; simp [chkCode] at hk⟩
    cases code <;> simp only [chkCode, Bool.false_eq_true] at hk
    · rename_i u v
      simp only [Bool.and_eq_true] at hk
      split at hs
      · rename_i e1 h1 hr
        refine wpIn_seq (wpIn_mono (hrec _ _ hr u nt κ a w hk.1 S).1 ?_)
        rintro x' a' w' ⟨rfl, κ', T⟩
        have := (hrec _ _ hs v nt κ' a' w' hk.2 (S.next T)).1
        rw [S.fence T.ext] at this
        exact wpIn_mono this fun x'' a'' w'' ⟨hx, U⟩ => ⟨hx, To.trans T S.rel U⟩
      · rename_i hno
        refine wpIn_seq (wpIn_mono (hrec _ _ hs u nt κ a w hk.1 S).1 ?_)
        rintro x' a' w' ⟨rfl, T⟩
        cases z with
        | normal => exact absurd hs (fun hs => hno _ _ hs)
        | ret => exact ⟨rfl, T⟩
        | exit id => exact ⟨rfl, T⟩
    · exact absurd rfl (hns _)
  | cond x y z =>
    simp only [step] at hs
    cases res with
    | ret => trivial
    | exit q e' h' =>
    refine unscope fun code nt κ a w hk hns S => ⟨?_, fun c' hl => by subst hl; simp [chkCode] at hk⟩
    cases code <;> simp only [chkCode, Bool.false_eq_true] at hk
    · rename_i c u v
      simp only [Bool.and_eq_true] at hk
      split at hs
      · rename_i hx
        exact wpIn_cond_true (opd_sound S.gr S.er hk.1.1 hx).bool_inv (hrec _ _ hs u nt κ a w hk.1.2 S).1
      · rename_i hx
        exact wpIn_cond_false (opd_sound S.gr S.er hk.1.1 hx).bool_inv (hrec _ _ hs v nt κ a w hk.2 S).1
      · cases hs
    · exact absurd rfl (hns _)
  | block id x =>
    simp only [step] at hs
    cases res with
    | ret => trivial
    | exit q e' h' =>
    refine unscope fun code nt κ a w hk hns S => ⟨?_, fun c' hl => by subst hl; simp [chkCode] at hk⟩
    cases code <;> simp only [chkCode, Bool.false_eq_true] at hk
    · rename_i i u
      simp only [Bool.and_eq_true, Nat.beq_eq] at hk
      obtain ⟨rfl, hk⟩ := hk
      split at hs
      · rename_i id' e1 h1 hr
        refine wpIn_block (wpIn_mono (hrec _ _ hr u nt κ a w hk S).1 ?_)
        rintro x' a' w' ⟨rfl, T⟩
        show Exit.inBlock i _ (Exit.exit id') a' w'
        simp only [Exit.inBlock]
        split at hs
        · rename_i hid; cases hs; rw [if_pos hid]; exact ⟨rfl, T⟩
        · rename_i hid; cases hs; rw [if_neg hid]; exact ⟨rfl, T⟩
      · rename_i hno
        refine wpIn_block (wpIn_mono (hrec _ _ hs u nt κ a w hk S).1 ?_)
        rintro x' a' w' ⟨rfl, T⟩
        cases q with
        | normal => exact ⟨rfl, T⟩
        | ret => exact ⟨rfl, T⟩
        | exit id => exact absurd hs (fun hs => hno _ _ _ hs)
    · exact absurd rfl (hns _)
  | loop live x =>
    simp only [step] at hs
    cases res with
    | ret => trivial
    | exit q e' h' =>
    refine unscope fun code nt κ a w hk hns S => ?_
    have key : ∀ c', code = .loop c' → LoopIn (fenceOf (r.map κ.mu)) 0 P c' (Fin P r nt κ w a q e' h') a w := by
      rintro u rfl
      simp only [chkCode] at hk
      have S' : St P G r nt κ w a (Env.mask live e) h := ⟨S.rel, S.er.mask live, S.gr, S.size, S.round⟩
      split at hs
      · rename_i e1 h1 hr
        refine LoopIn.step (wpIn_mono (hrec _ _ hr u nt κ a w hk S').1 ?_)
        rintro x' a' w' ⟨rfl, κ', T⟩
        have := (hrec _ _ hs (.loop u) nt κ' a' w' (by simpa only [chkCode] using hk) (S'.next T)).2 u rfl
        rw [S'.fence T.ext] at this
        intro b k cs h1 h2 h3
        obtain ⟨x3, a3, w3, ⟨hx, U⟩, harr⟩ := this b k cs h1 h2 h3
        exact ⟨x3, a3, w3, ⟨hx, To.trans T S.rel U⟩, harr⟩
      · rename_i hno
        refine LoopIn.step (wpIn_mono (hrec _ _ hs u nt κ a w hk S').1 ?_)
        rintro x' a' w' ⟨rfl, T⟩
        cases q with
        | normal => exact absurd hs (fun hs => hno _ _ hs)
        | ret => exact ⟨rfl, T⟩
        | exit id => exact ⟨rfl, T⟩
    refine ⟨?_, key⟩
    cases code <;> simp only [chkCode, Bool.false_eq_true] at hk
    · exact (key _ rfl).wp
    · exact absurd rfl (hns _)
  | region ops live =>
    simp only [step] at hs
    split at hs
    · rename_i e1 h1 hr
      cases hs
      refine unscope fun code nt κ a w hk hns S => ⟨?_, fun c' hl => by subst hl; simp [chkCode] at hk⟩
      cases code <;> (try simp only [chkCode, Bool.false_eq_true] at hk) <;> try (cases hk; done)
      · rename_i id os d
        cases d with
        | true =>
          simp only [chkCode, Bool.and_eq_true] at hk
          exact draw_sound hk.1 (by simpa using hk.2) hrec hkeep S hr
        | false =>
          simp only [chkCode] at hk
          refine wpIn_region ?_
          have := ops_sound (Q := Fin P r nt κ w a .normal (Env.mask live e1) h1) (ro := r.map κ.mu) (ops := os) hrec os.toList ops 0 (fun j x hx => by simpa using hx) hk S hr
            (fun a' w' ⟨κ', T⟩ => ⟨rfl, κ', T.mask live⟩)
          rw [List.range_eq_range']
          simpa using this
      · exact absurd rfl (hns _)
    · cases hs
  | rangeFunc f params assign body live =>
    simp only [step] at hs
    split at hs
    · rename_i g first caps hf
      split at hs
      · cases hs
      · rename_i hin
        split at hs
        · rename_i v h2 pb hr
          split at hs
          · rename_i q hq
            split at hs
            · cases hs
            · rename_i hbusy
              have hres : ∃ x, (match q.pending with | none => X.normal | some .ret => .ret | some (.exit id) => .exit id) = x ∧ res = .exit x e (h2.set h.next .dead) := by
                split at hs <;> rename_i hp <;> cases hs <;> exact ⟨_, rfl, by simp only [hp]⟩
              obtain ⟨x, hx, rfl⟩ := hres
              clear hs
              refine unscope fun code nt κ a w hk hns S => ⟨?_, fun c' hl => by subst hl; simp [chkCode] at hk⟩
              cases code <;> simp only [chkCode, Bool.false_eq_true] at hk
              · rename_i gf ps asg bod
                simp only [Bool.and_eq_true, decide_eq_true_eq] at hk
                obtain ⟨⟨⟨⟨hk1, hk2⟩, hk3⟩, hk4⟩, hk5⟩ := hk
                obtain ⟨xa, xc, hgx, hva, hvc⟩ := (opd_sound S.gr S.er hk1 hf).func_inv
                obtain ⟨hent, hcalls⟩ := hrec _ _ hr
                refine wpIn_rangeFunc fun fn _ => ?_
                -- the record laid
                have lay : ∃ (l : Nat) (mark : List Deferred) (w1 : World) (κ1 : K), (Instr.enterLoop fn a.tmps ps asg bod (fenceOf (r.map κ.mu)).round).run P w = .ok (l, mark) w1 ∧
                    Ext κ w κ1 w1 ∧ Rel (chkCode P) κ1 (h.new (.loop { state := .ready, pending := none, env := Env.mask live e, params, assign, body })) w1 ∧ κ1.mu h.next = l ∧
                    (match r with | none => Marks κ1.U w1 w.heap.size mark | some _ => mark = []) := by
                  have obj : ∀ {κ1 : K} {w1 : World} (d : Nat), Ext κ w κ1 w1 → Rel (chkCode P) κ1 h w1 → Ext κ1 w1 (κ1.place w1.heap.size) (push w1 (.loop { state := .ready, pending := none, fn, tmps := a.tmps, params := ps, assign := asg, body := bod, defers := d })) ∧
                      Rel (chkCode P) (κ1.place w1.heap.size) (h.new (.loop { state := .ready, pending := none, env := Env.mask live e, params, assign, body })) (push w1 (.loop { state := .ready, pending := none, fn, tmps := a.tmps, params := ps, assign := asg, body := bod, defers := d })) := by
                    intro κ1 w1 d X1 R1
                    refine R1.push_place _ _ rfl (by intro _ _ h; cases h) (fun X => ⟨_, by simp only [K.place, if_true]; exact push_new w1 _, rfl, rfl, ((S.er.mask live).mono X1).mono X, hk2, ?_, ?_, ?_⟩)
                    · intro t ht
                      have := List.all_eq_true.1 hk3 t ht
                      rw [S.size]; exact blt_true this
                    · rw [S.size]; exact hk4
                    · rw [S.size]; exact hk5
                  cases r with
                  | none =>
                    obtain ⟨X1, R1⟩ := S.rel.push_framed (.deferred (some []))
                    obtain ⟨X2, R2⟩ := obj w.heap.size X1 R1
                    refine ⟨_, _, _, _, run_enterLoop_outer _ _ _ _ _, X1.trans X2, R2, ?_, ?_⟩
                    · rw [← S.rel.n]; simp [K.place, push_size]
                    · refine ⟨⟨w.heap.size, rfl, Nat.le_refl _, .inr rfl, ?_, by simp⟩, trivial⟩
                      exact (X2.U _ (.inr rfl)).2.trans (push_new w _)
                  | some l0 =>
                    have hl0 := S.round l0 rfl
                    simp only [inLoop] at hin
                    split at hin
                    · rename_i q0 hq0
                      obtain ⟨L0, hL0, _⟩ := (S.rel.obj _ _ hq0).2
                      obtain ⟨X2, R2⟩ := obj L0.defers (.refl κ w) S.rel
                      refine ⟨_, _, _, _, run_enterLoop_inner hL0 _ _ _ _ _, X2, R2, ?_, rfl⟩
                      rw [← S.rel.n]; simp [K.place]
                    · cases hin
                obtain ⟨l, mark, w1, κ1, he, X1, R1, hmul, hmark⟩ := lay
                have hn1 : κ1.n = h.next + 1 := R1.n
                have hargs : (⟨xa⟩ : Array Value) ++ #[.func (.yield l) #[] #[]] ++ ⟨xc⟩ = ⟨xa ++ [.func (.yield l) #[] #[]] ++ xc⟩ := by apply Array.ext'; simp
                refine ⟨l, mark, w1, { target := .fn (.func g) ⟨xc⟩, args := ⟨xa⟩ ++ #[.func (.yield l) #[] #[]] }, w1, g, ⟨xa ++ [.func (.yield l) #[] #[]] ++ xc⟩, w1, he, ?_, fun f' _ => fence_fn _ f', ?_, fence_depth _, ?_⟩
                · simp only [resolve, rangeCall, hgx, Deferred.ofValue, Sem.run_pure]
                  simp [Act.eval]
                · simp only [invoke]
                  rw [run_callFunc hent, hargs]
                · have hA : VRL w1 κ1 (first ++ [.yield h.next] ++ caps) (xa ++ [.func (.yield l) #[] #[]] ++ xc) := by
                    refine ((hva.mono X1).append (.cons _ _ _ _ ?_ .nil)).append (hvc.mono X1)
                    rw [← hmul]; exact .yield _ (by omega)
                  refine calls_fence _ ((hcalls κ1 w1 _ R1 (S.gr.mono X1) hA).mono ?_)
                  rintro _ w3 ⟨y, κ3, rfl, X3, R3, -⟩
                  have hmu3 : κ3.mu h.next = l := (X3.mu _ (by omega)).trans hmul
                  obtain ⟨L, hL, hst, hpe, -⟩ := (R3.obj _ _ hq).2
                  have hLb : L.state ≠ .busy := by
                    rw [hst]; intro hb; apply hbusy
                    cases hqs : q.state <;> rw [hqs] at hb <;> first | rfl | cases hb
                  have hend := run_endLoop (P := P) hL hLb
                  rw [hmu3] at hend
                  obtain ⟨X4, R4⟩ := R3.put_loop (o := .loop { L with state := .exhausted }) (p := .dead) hq (.inr rfl) (fun _ => trivial)
                  rw [hmu3] at X4 R4
                  have T : ToK P r nt κ w a e (h2.set h.next .dead) { a with defers := mark ++ a.defers } (w3.putObj l (.loop { L with state := .exhausted })) κ3 := by
                    refine ⟨(X1.trans X3).trans X4, R4, S.er.mono ((X1.trans X3).trans X4), S.size, ?_⟩
                    cases r with
                    | none => exact ⟨mark, rfl, hmark.mono (Nat.le_refl _) (X3.trans X4).U⟩
                    | some _ => simp only at hmark; subst hmark; rfl
                  generalize w3.putObj l (.loop { L with state := .exhausted }) = w4 at T hend
                  refine ⟨L.pending, w4, hend, ?_⟩
                  rw [hpe]
                  cases hp : q.pending with
                  | none => rw [hp] at hx; subst hx; exact ⟨rfl, κ3, T⟩
                  | some j =>
                    rw [hp] at hx
                    cases j with
                    | ret => subst hx; exact jump_sound (j := .ret) ⟨rfl, κ3, T⟩
                    | exit id => subst hx; exact jump_sound (j := .exit id) ⟨rfl, κ3, T⟩
              · exact absurd rfl (hns _)
          · cases hs
        · cases hs
    · cases hs

theorem eval_sound (hFN : ∀ f v, FN f = some v → chkFunc P f v = true) : ∀ (n : Nat) (t : Task) (res : Res), eval G FN n t = some res → Sound P G t res
  | 0, t, res, hv => by cases hv
  | n + 1, t, res, hv => by
    have ih := eval_sound hFN n
    have hv' : step G FN (eval G FN n) t = some res := hv
    cases t with
    | code r c e h => exact code_sound ih (eval_keeps n) hv'
    | call f args h => exact call_sound hFN ih (eval_keeps n) hv'
    | yield l args h => exact yield_sound ih hv'
#print axioms eval_sound
end
end Go.Vi
