/- More rounds change nothing: the run is monotone. No statement of a claim stands here. -/
import Derived.Test.YtngcbeckobfaaaaDoorVd
set_option linter.unusedSimpArgs false
set_option linter.unusedVariables false
namespace Go.Vi
open Go

section
variable {G : Globs} {P : Prog} {rec rec' : Task → Option Res} (hle : ∀ t r, rec t = some r → rec' t = some r)
include hle

theorem callee_mono {f : V} {args : List V} {h : H} {r : V × H × Bool} (hc : callee rec f args h = some r) : callee rec' f args h = some r := by
  unfold callee at hc ⊢
  split at hc
  · split at hc
    · rename_i hr; rw [hle _ _ hr]; exact hc
    · cases hc
  · split at hc
    · rename_i hr; rw [hle _ _ hr]; exact hc
    · cases hc
  · cases hc
theorem runOp_mono {e : Env} {h : H} {vo : VOp} {r : V × H} (hv : runOp rec G e h vo = some r) : runOp rec' G e h vo = some r := by
  unfold runOp at hv ⊢
  split at hv
  · simp only [Option.bind_eq_bind, Option.bind_eq_some_iff] at hv ⊢
    obtain ⟨f, h1, as, h2, c, hc, hv⟩ := hv
    exact ⟨f, h1, as, h2, c, callee_mono hle hc, hv⟩
  · exact hv
theorem runOps_mono {all : List VO} : ∀ {os : List VO} {e : Env} {h : H} {r : Env × H}, runOps rec G all os e h = some r → runOps rec' G all os e h = some r
  | [], e, h, r, hv => hv
  | o :: os, e, h, r, hv => by
    simp only [runOps] at hv ⊢
    split at hv
    · cases hv
    · rename_i hg; exact runOps_mono hv
    · rename_i hg
      split at hv
      · cases hv
      · rename_i hr
        rw [runOp_mono hle hr]
        simp only
        split at hv
        · rename_i ha; rw [if_pos ha]; exact runOps_mono hv
        · cases hv

theorem step_mono {t : Task} {r : Res} (hs : step G P rec t = some r) : step G P rec' t = some r := by
  cases t with
  | code ro c e h =>
    cases c with
    | skip => exact hs
    | ret => exact hs
    | exit id => exact hs
    | seq a b =>
      simp only [step] at hs ⊢
      split at hs
      · rename_i h1; rw [hle _ _ h1]; exact hle _ _ hs
      · rename_i hno
        rw [hle _ _ hs]
        split
        · rename_i heq; exact absurd (hs.trans heq) (by intro hh; exact hno _ _ hh)
        · rfl
    | cond x a b =>
      simp only [step] at hs ⊢
      split at hs
      · exact hle _ _ hs
      · exact hle _ _ hs
      · cases hs
    | block id a =>
      simp only [step] at hs ⊢
      split at hs
      · rename_i h1; rw [hle _ _ h1]; exact hs
      · rename_i hno
        rw [hle _ _ hs]
        split
        · rename_i heq; exact absurd (hs.trans heq) (by intro hh; exact hno _ _ _ hh)
        · rfl
    | loop live a =>
      simp only [step] at hs ⊢
      split at hs
      · rename_i h1; rw [hle _ _ h1]; exact hle _ _ hs
      · rename_i hno
        rw [hle _ _ hs]
        split
        · rename_i heq; exact absurd (hs.trans heq) (by intro hh; exact hno _ _ hh)
        · rfl
    | region ops live =>
      simp only [step] at hs ⊢
      split at hs
      · rename_i h1; rw [runOps_mono hle h1]; exact hs
      · cases hs
    | rangeFunc f params assign body live =>
      simp only [step] at hs ⊢
      split at hs
      · split at hs
        · cases hs
        · split at hs
          · rename_i h1
            rw [hle _ _ h1]
            exact hs
          · cases hs
      · cases hs
  | call f args h =>
    simp only [step] at hs ⊢
    split at hs
    · cases hs
    · split at hs
      · cases hs
      · split at hs
        · rename_i h1; rw [hle _ _ h1]; exact hs
        · rename_i h1; rw [hle _ _ h1]; exact hs
        · cases hs
  | yield l args h =>
    simp only [step] at hs ⊢
    split at hs
    · split at hs
      · cases hs
      · split at hs
        · rename_i h1
          rw [hle _ _ h1]
          simp only
          split at hs
          · split at hs
            · rename_i hq hrd
              split at hs
              · rename_i h2
                simp only [hrd, if_true]
                rw [hle _ _ h2]; exact hs
              · cases hs
            · cases hs
          · cases hs
        · cases hs
    · cases hs
end

theorem eval_succ {G : Globs} {P : Prog} : ∀ (n : Nat) {t : Task} {r : Res}, eval G P n t = some r → eval G P (n + 1) t = some r
  | 0, _, _, h => by cases h
  | n + 1, t, r, h => step_mono (rec := eval G P n) (rec' := eval G P (n + 1)) (fun _ _ => eval_succ n) h
theorem eval_mono {G : Globs} {P : Prog} {n m : Nat} (hnm : n ≤ m) {t : Task} {r : Res} (h : eval G P n t = some r) : eval G P m t = some r := by
  induction hnm with
  | refl => exact h
  | step _ ih => exact eval_succ _ ih
end Go.Vi
/- Rules to reason about runs, one a statement. No statement of a claim stands here. -/
namespace Go.Vi
open Go

def Runs (G : Globs) (P : Prog) (t : Task) (r : Res) : Prop := ∃ n, eval G P n t = some r

section
variable {G : Globs} {P : Prog} {r : Option Nat} {e e1 e2 : Env} {h h1 h2 : H} {res : Res} {x : X}

theorem Runs.of_step {t : Task} {n : Nat} (hs : step G P (eval G P n) t = some res) : Runs G P t res := ⟨n + 1, hs⟩

theorem Runs.skip : Runs G P (.code r .skip e h) (.exit .normal e h) := ⟨1, rfl⟩
theorem Runs.ret : Runs G P (.code r .ret e h) (.exit .ret e h) := ⟨1, rfl⟩
theorem Runs.exit {id : Nat} : Runs G P (.code r (.exit id) e h) (.exit (.exit id) e h) := ⟨1, rfl⟩
theorem Runs.seq {a b : VCode} (ha : Runs G P (.code r a e h) (.exit .normal e1 h1)) (hb : Runs G P (.code r b e1 h1) res) : Runs G P (.code r (.seq a b) e h) res := by
  obtain ⟨n, hn⟩ := ha; obtain ⟨m, hm⟩ := hb
  refine .of_step (n := max n m) ?_
  simp only [step, eval_mono (Nat.le_max_left n m) hn, eval_mono (Nat.le_max_right n m) hm]
theorem Runs.seq_out {a b : VCode} (ha : Runs G P (.code r a e h) (.exit x e1 h1)) (hx : x ≠ .normal) : Runs G P (.code r (.seq a b) e h) (.exit x e1 h1) := by
  obtain ⟨n, hn⟩ := ha
  refine .of_step (n := n) ?_
  simp only [step, hn]
  cases x <;> first | rfl | exact absurd rfl hx
theorem Runs.cond {c : Opd} {a b : VCode} {t : Bool} (hc : c.val G e = some (.bool t)) (hb : Runs G P (.code r (if t then a else b) e h) res) : Runs G P (.code r (.cond c a b) e h) res := by
  obtain ⟨n, hn⟩ := hb
  refine .of_step (n := n) ?_
  simp only [step, hc]
  cases t <;> exact hn
theorem Runs.block {id : Nat} {a : VCode} (ha : Runs G P (.code r a e h) (.exit x e1 h1)) (hx : x ≠ .exit id) : Runs G P (.code r (.block id a) e h) (.exit x e1 h1) := by
  obtain ⟨n, hn⟩ := ha
  refine .of_step (n := n) ?_
  simp only [step, hn]
  cases x with
  | normal => rfl
  | ret => rfl
  | exit i => simp only; rw [if_neg (fun e => hx (by rw [e]))]
theorem Runs.block_exit {id : Nat} {a : VCode} (ha : Runs G P (.code r a e h) (.exit (.exit id) e1 h1)) : Runs G P (.code r (.block id a) e h) (.exit .normal e1 h1) := by
  obtain ⟨n, hn⟩ := ha
  refine .of_step (n := n) ?_
  simp [step, hn]
theorem Runs.loop {live : List Nat} {a : VCode} (ha : Runs G P (.code r a (Env.mask live e) h) (.exit .normal e1 h1)) (hb : Runs G P (.code r (.loop live a) e1 h1) res) : Runs G P (.code r (.loop live a) e h) res := by
  obtain ⟨n, hn⟩ := ha; obtain ⟨m, hm⟩ := hb
  refine .of_step (n := max n m) ?_
  simp only [step, eval_mono (Nat.le_max_left n m) hn, eval_mono (Nat.le_max_right n m) hm]
theorem Runs.loop_out {live : List Nat} {a : VCode} (ha : Runs G P (.code r a (Env.mask live e) h) (.exit x e1 h1)) (hx : x ≠ .normal) : Runs G P (.code r (.loop live a) e h) (.exit x e1 h1) := by
  obtain ⟨n, hn⟩ := ha
  refine .of_step (n := n) ?_
  simp only [step, hn]
  cases x <;> first | rfl | exact absurd rfl hx

/-- a region's operations run -/
def Ops (G : Globs) (P : Prog) (all vs : List VO) (e : Env) (h : H) (e' : Env) (h' : H) : Prop := ∃ n, runOps (eval G P n) G all vs e h = some (e', h')
theorem Ops.nil {all : List VO} : Ops G P all [] e h e h := ⟨0, rfl⟩
theorem Ops.skip {all vs : List VO} {o : VO} (hg : guarded e o.guard = some false) (hr : Ops G P all vs (e.put o.dst (.tuple [])) h e2 h2) : Ops G P all (o :: vs) e h e2 h2 := by
  obtain ⟨n, hn⟩ := hr
  exact ⟨n, by simp only [runOps, hg, hn]⟩
theorem Ops.step {all vs : List VO} {o : VO} {v : V} (hg : guarded e o.guard = some true) (hv : ev G e h o.op = some (v, h1)) (ha : again G e h1 all o.re = true) (hr : Ops G P all vs (e.put o.dst v) h1 e2 h2) : Ops G P all (o :: vs) e h e2 h2 := by
  obtain ⟨n, hn⟩ := hr
  have : runOp (eval G P n) G e h o.op = some (v, h1) := by
    cases hop : o.op <;> rw [hop] at hv <;> first | exact hv | (simp [ev] at hv; done)
  exact ⟨n, by simp only [runOps, hg, this, ha, if_true, hn]⟩
theorem Ops.call {all vs : List VO} {o : VO} {pure : Bool} {f : Opd} {as : List Opd} {g : Nat} {first caps args : List V} {v : V} {p : Bool} (hop : o.op = .call pure f as) (hg : guarded e o.guard = some true)
    (hf : f.val G e = some (.func g first caps)) (has : vals G e as = some args) (hc : Runs G P (.call g (first ++ args ++ caps) h) (.ret v h1 p)) (hp : pure = true → p = true) (ha : again G e h1 all o.re = true)
    (hr : Ops G P all vs (e.put o.dst v) h1 e2 h2) : Ops G P all (o :: vs) e h e2 h2 := by
  obtain ⟨n, hn⟩ := hr; obtain ⟨m, hm⟩ := hc
  refine ⟨max n m, ?_⟩
  have hm' := eval_mono (Nat.le_max_right n m) hm
  have hn' := runOps_mono (rec' := eval G P (max n m)) (fun _ _ hh => eval_mono (Nat.le_max_left n m) hh) hn
  have : runOp (eval G P (max n m)) G e h o.op = some (v, h1) := by
    rw [hop]
    simp only [runOp, hf, has, callee, hm', Option.bind_eq_bind, Option.bind_some]
    cases pure <;> cases p <;> first | rfl | (have := hp rfl; cases this)
  simp only [runOps, hg, this, ha, if_true, hn']
theorem Ops.yield {all vs : List VO} {o : VO} {f : Opd} {as : List Opd} {l : Nat} {args : List V} {v : V} {p : Bool} (hop : o.op = .call false f as) (hg : guarded e o.guard = some true)
    (hf : f.val G e = some (.yield l)) (has : vals G e as = some args) (hc : Runs G P (.yield l args h) (.ret v h1 p)) (ha : again G e h1 all o.re = true)
    (hr : Ops G P all vs (e.put o.dst v) h1 e2 h2) : Ops G P all (o :: vs) e h e2 h2 := by
  obtain ⟨n, hn⟩ := hr; obtain ⟨m, hm⟩ := hc
  refine ⟨max n m, ?_⟩
  have hm' := eval_mono (Nat.le_max_right n m) hm
  have hn' := runOps_mono (rec' := eval G P (max n m)) (fun _ _ hh => eval_mono (Nat.le_max_left n m) hh) hn
  have : runOp (eval G P (max n m)) G e h o.op = some (v, h1) := by
    rw [hop]
    simp only [runOp, hf, has, callee, hm', Option.bind_eq_bind, Option.bind_some]
  simp only [runOps, hg, this, ha, if_true, hn']
theorem Runs.region {vs : List VO} {live : List Nat} (ho : Ops G P vs vs e h e1 h1) : Runs G P (.code r (.region vs live) e h) (.exit .normal (Env.mask live e1) h1) := by
  obtain ⟨n, hn⟩ := ho
  refine .of_step (n := n) ?_
  simp only [step, hn]

theorem Runs.call {f : Nat} {fn : VFunc} {args us : List V} (hf : P f = some fn) (hl : Nat.ble args.length fn.nt = true) (hx : x = .normal ∨ x = .ret) (hb : Runs G P (.code none fn.body (bindArgs 0 args) { h with low := h.next }) (.exit x e1 h1))
    (hr : ressOf e1 h1 fn.results = some us) : Runs G P (.call f args h) (.ret (leave h (pack us).clasp h1).1 (leave h (pack us).clasp h1).2.1 (leave h (pack us).clasp h1).2.2) := by
  obtain ⟨n, hn⟩ := hb
  refine .of_step (n := n) ?_
  rcases hx with rfl | rfl <;> simp only [step, hf, hl, hn, hr]

/-- a range over a function: the function runs on the record just laid -/
theorem Runs.rangeFunc {f : Opd} {params live : List Nat} {assign body : VCode} {g : Nat} {first caps : List V} {v : V} {p : Bool} {q : LoopRec} (hf : f.val G e = some (.func g first caps)) (hin : inLoop h r = true)
    (hc : Runs G P (.call g (first ++ [.yield h.next] ++ caps) (h.new (.loop { state := .ready, pending := none, env := Env.mask live e, params, assign, body }))) (.ret v h2 p))
    (hq : h2.get h.next = some (.loop q)) (hb : q.state ≠ .busy) :
    Runs G P (.code r (.rangeFunc f params assign body live) e h) (.exit (match q.pending with | none => .normal | some .ret => .ret | some (.exit id) => .exit id) e (h2.set h.next .dead)) := by
  obtain ⟨n, hn⟩ := hc
  refine .of_step (n := n) ?_
  simp only [step, hf, hin, hn, hq, if_neg hb]
  cases q.pending with
  | none => rfl
  | some j => cases j <;> rfl

/-- one round -/
theorem Runs.yield {l : Nat} {args : List V} {q q1 q2 : LoopRec} {e3 : Env} {h3 : H} (hq : h.get l = some (.loop q)) (he : putL q.env q.params args = some e1) (ha : Runs G P (.code (some l) q.assign e1 h) (.exit .normal e2 h1))
    (hq1 : h1.get l = some (.loop q1)) (hr1 : q1.state = .ready) (hb : Runs G P (.code (some l) q.body e2 (h1.set l (.loop { q1 with state := .busy }))) (.exit x e3 h3)) (hq2 : h3.get l = some (.loop q2)) :
    Runs G P (.yield l args h) (.ret (.bool x.code.isNone) (h3.set l (.loop { q2 with state := if x.code.isNone then .ready else .done, pending := x.code })) false) := by
  obtain ⟨n, hn⟩ := ha; obtain ⟨m, hm⟩ := hb
  refine .of_step (n := max n m) ?_
  simp only [step, hq, he, eval_mono (Nat.le_max_left n m) hn, hq1, hr1, if_true, eval_mono (Nat.le_max_right n m) hm, hq2]
end
end Go.Vi
