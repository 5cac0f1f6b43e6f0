/- Runs as predicates on what they leave; lemmas by which simp carries out a region. No statement of a claim stands here. -/
import Derived.Test.YtngcbeckobfaaaaDoorVm1
set_option linter.unusedSimpArgs false
set_option linter.unusedVariables false
namespace Go.Vi
open Go

def WP (G : Globs) (P : Prog) (r : Option Nat) (c : VCode) (e : Env) (h : H) (Q : X → Env → H → Prop) : Prop := ∃ x e' h', Runs G P (.code r c e h) (.exit x e' h') ∧ Q x e' h'
def WO (G : Globs) (P : Prog) (all os : List VO) (e : Env) (h : H) (Q : Env → H → Prop) : Prop := ∃ e' h', Ops G P all os e h e' h' ∧ Q e' h'
def WC (G : Globs) (P : Prog) (f : Nat) (args : List V) (h : H) (Q : V → H → Bool → Prop) : Prop := ∃ v h' p, Runs G P (.call f args h) (.ret v h' p) ∧ Q v h' p

def isCall : VOp → Bool
  | .call .. => true
  | _ => false
/-- operations up to the next call -/
def pre (G : Globs) (all : List VO) : List VO → Env → H → Option (Env × H × List VO)
  | [], e, h => some (e, h, [])
  | ⟨d, g, op, re⟩ :: os, e, h =>
    match guarded e g with
    | none => none
    | some false => pre G all os (e.put d (.tuple [])) h
    | some true =>
      match isCall op with
      | true => some (e, h, ⟨d, g, op, re⟩ :: os)
      | false =>
        match ev G e h op with
        | none => none
        | some (v, h') => match again G e h' all re with | true => pre G all os (e.put d v) h' | false => none

def VCode.l : VCode → VCode
  | .seq a _ => a
  | .block _ a => a
  | .loop _ a => a
  | c => c
def VCode.r : VCode → VCode
  | .seq _ b => b
  | c => c
section
variable {G : Globs} {P : Prog} {r : Option Nat} {e e1 e2 : Env} {h h1 h2 : H} {Q Q' : X → Env → H → Prop} {K K' : Env → H → Prop} {all : List VO}

theorem WP.mono {c : VCode} (hw : WP G P r c e h Q) (hq : ∀ x e h, Q x e h → Q' x e h) : WP G P r c e h Q' := by
  obtain ⟨x, e', h', h1, h2⟩ := hw; exact ⟨x, e', h', h1, hq _ _ _ h2⟩
theorem WC.mono {f : Nat} {args : List V} {Q Q' : V → H → Bool → Prop} (hw : WC G P f args h Q) (hq : ∀ v h p, Q v h p → Q' v h p) : WC G P f args h Q' := by
  obtain ⟨x, e', h', h1, h2⟩ := hw; exact ⟨x, e', h', h1, hq _ _ _ h2⟩
theorem wp_skip (hq : Q .normal e h) : WP G P r .skip e h Q := ⟨_, _, _, .skip, hq⟩
theorem wp_ret (hq : Q .ret e h) : WP G P r .ret e h Q := ⟨_, _, _, .ret, hq⟩
theorem wp_exit {i : Nat} (hq : Q (.exit i) e h) : WP G P r (.exit i) e h Q := ⟨_, _, _, .exit, hq⟩
def thenQ (G : Globs) (P : Prog) (r : Option Nat) (b : VCode) (Q : X → Env → H → Prop) : X → Env → H → Prop
  | .normal, e, h => WP G P r b e h Q
  | x, e, h => Q x e h
theorem wp_seq {a b : VCode} (hw : WP G P r a e h (thenQ G P r b Q)) : WP G P r (.seq a b) e h Q := by
  obtain ⟨x, e', h', h1, h2⟩ := hw
  cases x with
  | normal => obtain ⟨x2, e2, h2', h3, h4⟩ := h2; exact ⟨x2, e2, h2', .seq h1 h3, h4⟩
  | ret => exact ⟨_, _, _, .seq_out h1 (by simp), h2⟩
  | exit i => exact ⟨_, _, _, .seq_out h1 (by simp), h2⟩
def blockQ (i : Nat) (Q : X → Env → H → Prop) : X → Env → H → Prop
  | .exit j, e, h => if j = i then Q .normal e h else Q (.exit j) e h
  | x, e, h => Q x e h
theorem wp_block {i : Nat} {a : VCode} (hw : WP G P r a e h (blockQ i Q)) : WP G P r (.block i a) e h Q := by
  obtain ⟨x, e', h', h1, h2⟩ := hw
  cases x with
  | normal => exact ⟨_, _, _, .block h1 (by simp), h2⟩
  | ret => exact ⟨_, _, _, .block h1 (by simp), h2⟩
  | exit j =>
    simp only [blockQ] at h2
    split at h2
    · rename_i hj; subst hj; exact ⟨_, _, _, .block_exit h1, h2⟩
    · rename_i hj; exact ⟨_, _, _, .block h1 (by simpa using hj), h2⟩
theorem wp_cond {c : Opd} {a b : VCode} {t : Bool} (hc : c.val G e = some (.bool t)) (ht : t = true → WP G P r a e h Q) (hf : t = false → WP G P r b e h Q) : WP G P r (.cond c a b) e h Q := by
  cases t with
  | true => obtain ⟨x, e', h', h1, h2⟩ := ht rfl; exact ⟨_, _, _, .cond hc h1, h2⟩
  | false => obtain ⟨x, e', h', h1, h2⟩ := hf rfl; exact ⟨_, _, _, .cond hc h1, h2⟩
theorem wp_condP {c : Opd} {a b : VCode} {p : Prop} [Decidable p] (hc : c.val G e = some (.bool (decide p))) (ht : p → WP G P r a e h Q) (hf : ¬ p → WP G P r b e h Q) : WP G P r (.cond c a b) e h Q :=
  wp_cond hc (fun h => ht (of_decide_eq_true h)) (fun h => hf (of_decide_eq_false h))
theorem wp_condT {c : Opd} {a b : VCode} (hc : c.val G e = some (.bool true)) (ht : WP G P r a e h Q) : WP G P r (.cond c a b) e h Q := wp_cond hc (fun _ => ht) (fun h => by cases h)
theorem wp_condF {c : Opd} {a b : VCode} (hc : c.val G e = some (.bool false)) (hf : WP G P r b e h Q) : WP G P r (.cond c a b) e h Q := wp_cond hc (fun h => by cases h) (fun _ => hf)
theorem wp_region {vs : List VO} {live : List Nat} (hw : WO G P vs vs e h fun e' h' => Q .normal (Env.mask live e') h') : WP G P r (.region vs live) e h Q := by
  obtain ⟨e', h', h1, h2⟩ := hw; exact ⟨_, _, _, .region h1, h2⟩
theorem wo_done (hk : K e h) : WO G P all [] e h K := ⟨_, _, .nil, hk⟩
theorem wo_pre : ∀ {os rest : List VO} {e e1 : Env} {h h1 : H} {K : Env → H → Prop}, pre G all os e h = some (e1, h1, rest) → WO G P all rest e1 h1 K → WO G P all os e h K
  | [], rest, e, e1, h, h1, K, hr, hk => by
    simp only [pre, Option.some.injEq, Prod.mk.injEq] at hr
    obtain ⟨rfl, rfl, rfl⟩ := hr; exact hk
  | ⟨d, g, op, re⟩ :: os, rest, e, e1, h, h1, K, hr, hk => by
    simp only [pre] at hr
    split at hr
    · cases hr
    · rename_i hg
      obtain ⟨e', h', h3, h4⟩ := wo_pre hr hk
      exact ⟨e', h', .skip hg h3, h4⟩
    · rename_i hg
      split at hr
      · simp only [Option.some.injEq, Prod.mk.injEq] at hr
        obtain ⟨rfl, rfl, rfl⟩ := hr; exact hk
      · split at hr
        · cases hr
        · rename_i hv
          split at hr
          · rename_i ha
            obtain ⟨e', h', h3, h4⟩ := wo_pre hr hk
            exact ⟨e', h', .step hg hv ha h3, h4⟩
          · cases hr
theorem wo_call {d : Option Nat} {g : Option (Nat × Bool)} {re : List Nat} {pure : Bool} {f : Opd} {as : List Opd} {os : List VO} {k : Nat} {first caps args : List V} (hg : guarded e g = some true) (hf : f.val G e = some (.func k first caps))
    (has : vals G e as = some args) (hc : WC G P k (first ++ args ++ caps) h fun v h1 p => (pure = true → p = true) ∧ again G e h1 all re = true ∧ WO G P all os (e.put d v) h1 K) : WO G P all (⟨d, g, .call pure f as, re⟩ :: os) e h K := by
  obtain ⟨v, h1, p, hc, hp, ha, e', h', h3, h4⟩ := hc
  exact ⟨e', h', .call rfl hg hf has hc hp ha h3, h4⟩
/-- one region without calls -/
theorem wp_reg {vs : List VO} {live : List Nat} (hr : pre G vs vs e h = some (e1, h1, [])) (hm : Env.mask live e1 = e2) (hq : Q .normal e2 h1) : WP G P r (.region vs live) e h Q := by
  subst hm; exact wp_region (wo_pre hr (wo_done hq))
theorem wo_append : ∀ {a b : List VO} {e e1 : Env} {h h1 : H} {K : Env → H → Prop}, pre G all a e h = some (e1, h1, []) → WO G P all b e1 h1 K → WO G P all (a ++ b) e h K
  | [], b, e, e1, h, h1, K, hr, hk => by
    simp only [pre, Option.some.injEq, Prod.mk.injEq] at hr
    obtain ⟨rfl, rfl, -⟩ := hr; exact hk
  | ⟨d, g, op, re⟩ :: a, b, e, e1, h, h1, K, hr, hk => by
    simp only [pre] at hr
    split at hr
    · cases hr
    · rename_i hg
      obtain ⟨e', h', h3, h4⟩ := wo_append hr hk
      exact ⟨e', h', .skip hg h3, h4⟩
    · rename_i hg
      split at hr
      · simp at hr
      · split at hr
        · cases hr
        · rename_i hv
          split at hr
          · rename_i ha
            obtain ⟨e', h', h3, h4⟩ := wo_append hr hk
            exact ⟨e', h', .step hg hv ha h3, h4⟩
          · cases hr
def chunkQ (G : Globs) (P : Prog) (all os : List VO) (K : Env → H → Prop) : Option (Env × H × List VO) → Prop
  | some (e, h, []) => WO G P all os e h K
  | _ => False
/-- the next k operations, which call nothing -/
theorem wo_k {os : List VO} (k : Nat) {x : Option (Env × H × List VO)} (hr : pre G all (os.take k) e h = x) (hq : chunkQ G P all (os.drop k) K x) : WO G P all os e h K := by
  subst hr
  unfold chunkQ at hq
  split at hq
  · rename_i hp
    have := wo_append hp hq
    rwa [List.take_append_drop] at this
  · exact hq.elim
theorem wo_op {os : List VO} {d : Option Nat} {g : Option (Nat × Bool)} {op : VOp} {re : List Nat} {v : V} {h' : H} (hg : guarded e g = some true) (hn : isCall op = false) (hv : ev G e h op = some (v, h')) (ha : again G e h' all re = true)
    (hk : WO G P all os (e.put d v) h' K) : WO G P all (⟨d, g, op, re⟩ :: os) e h K := by
  obtain ⟨e', h2, h3, h4⟩ := hk
  exact ⟨e', h2, .step hg hv ha h3, h4⟩
/-- a region without calls, carried out -/
def reg (G : Globs) (vs : List VO) (live : List Nat) (e : Env) (h : H) : Option (Env × H) :=
  match pre G vs vs e h with
  | some (e1, h1, []) => some (Env.mask live e1, h1)
  | _ => none
def regQ (Q : X → Env → H → Prop) : Option (Env × H) → Prop
  | some (e, h) => Q .normal e h
  | none => False
theorem wp_r {vs : List VO} {live : List Nat} {x : Option (Env × H)} (hr : reg G vs live e h = x) (hq : regQ Q x) : WP G P r (.region vs live) e h Q := by
  subst hr
  unfold reg at hq
  split at hq
  · rename_i hp; exact wp_region (wo_pre hp (wo_done hq))
  · exact hq.elim
theorem wp_rc {vs : List VO} {live : List Nat} (hw : WO G P vs vs e h fun e' h' => Q .normal (Env.mask live e') h') : WP G P r (.region vs live) e h Q := wp_region hw
/-- a call that answers so and leaves all as it was -/
theorem wo_pure {os : List VO} {d : Option Nat} {g : Option (Nat × Bool)} {re : List Nat} {pure : Bool} {f : Opd} {as : List Opd} {k : Nat} {first caps args : List V} {u : V} (hc : WC G P k (first ++ args ++ caps) h fun v h' p => v = u ∧ h' = h ∧ p = true)
    (hg : guarded e g = some true) (hf : f.val G e = some (.func k first caps)) (has : vals G e as = some args) (ha : again G e h all re = true)
    (hk : WO G P all os (e.put d u) h K) : WO G P all (⟨d, g, .call pure f as, re⟩ :: os) e h K := by
  obtain ⟨v, h', p, hr, e1, e2, e3⟩ := hc
  subst e1; subst e2; subst e3
  obtain ⟨e', h', h3, h4⟩ := hk
  exact ⟨e', h', .call rfl hg hf has hr (fun _ => rfl) ha h3, h4⟩
/-- .. of a function that is named -/
theorem wo_fn {os : List VO} {d : Option Nat} {g : Option (Nat × Bool)} {re : List Nat} {pure : Bool} {as : List Opd} {k : Nat} {args : List V} {u : V} (hc : WC G P k args h fun v h' p => v = u ∧ h' = h ∧ p = true)
    (hg : guarded e g = some true) (has : vals G e as = some args) (ha : again G e h all re = true)
    (hk : WO G P all os (e.put d u) h K) : WO G P all (⟨d, g, .call pure (.const (.func k [] [])) as, re⟩ :: os) e h K :=
  wo_pure (first := []) (caps := []) (args := args) (by simpa using hc) hg rfl has ha hk
/-- .. of a function value without captures -/
theorem wo_fv {os : List VO} {d : Option Nat} {g : Option (Nat × Bool)} {re : List Nat} {pure : Bool} {f : Opd} {as : List Opd} {k : Nat} {args : List V} {u : V} (hc : WC G P k args h fun v h' p => v = u ∧ h' = h ∧ p = true)
    (hg : guarded e g = some true) (hf : f.val G e = some (.func k [] [])) (has : vals G e as = some args) (ha : again G e h all re = true)
    (hk : WO G P all os (e.put d u) h K) : WO G P all (⟨d, g, .call pure f as, re⟩ :: os) e h K :=
  wo_pure (first := []) (caps := []) (args := args) (by simpa using hc) hg hf has ha hk
def preQ (G : Globs) (P : Prog) (all : List VO) (K : Env → H → Prop) : Option (Env × H × List VO) → Prop
  | some (e, h, os) => WO G P all os e h K
  | none => False
theorem wo_p {os : List VO} {x : Option (Env × H × List VO)} (hr : pre G all os e h = x) (hq : preQ G P all K x) : WO G P all os e h K := by
  subst hr
  unfold preQ at hq
  split at hq
  · rename_i hp; exact wo_pre hp hq
  · exact hq.elim
theorem wo_m {live : List Nat} {e2 : Env} (hm : Env.mask live e = e2) (hq : Q .normal e2 h) : WO G P all [] e h (fun e' h' => Q .normal (Env.mask live e') h') := by
  subst hm; exact wo_done hq
/-- a call: the body runs; the results are read; what the call leaves -/
theorem wc_body {f : Nat} {fn : VFunc} {args : List V} {R : V → H → Bool → Prop} (hf : P f = some fn) (hl : Nat.ble args.length fn.nt = true)
    (hb : WP G P none fn.body (bindArgs 0 args) { h with low := h.next } fun x e1 h1 => (x = .normal ∨ x = .ret) ∧ ∃ us, ressOf e1 h1 fn.results = some us ∧ R (leave h (pack us).clasp h1).1 (leave h (pack us).clasp h1).2.1 (leave h (pack us).clasp h1).2.2) :
    WC G P f args h R := by
  obtain ⟨x, e', h', h1, hx, us, hu, hR⟩ := hb
  exact ⟨_, _, _, .call hf hl hx h1 hu, hR⟩
/-- .. of a function that hands back no memory and writes into none that was there -/
theorem wc_pure {f : Nat} {fn : VFunc} {args : List V} {R : V → H → Bool → Prop} (hf : P f = some fn) (hl : Nat.ble args.length fn.nt = true)
    (hb : WP G P none fn.body (bindArgs 0 args) { h with low := h.next } fun x e1 h1 => (x = .normal ∨ x = .ret) ∧ ∃ us, ressOf e1 h1 fn.results = some us ∧ (pack us).clasp.top ≤ h.next ∧ h.next ≤ h1.low ∧ R (pack us).clasp h true) :
    WC G P f args h R := by
  refine wc_body hf hl (hb.mono ?_)
  rintro x e1 h1 ⟨hx, us, hu, ht, hw, hR⟩
  refine ⟨hx, us, hu, ?_⟩
  simp only [leave, Nat.ble_eq_true_of_le ht, Nat.ble_eq_true_of_le hw]
  exact hR
theorem wp_loop {live : List Nat} {a : VCode} (hw : WP G P r a (Env.mask live e) h (thenQ G P r (.loop live a) Q)) : WP G P r (.loop live a) e h Q := by
  obtain ⟨x, e', h', h1, h2⟩ := hw
  cases x with
  | normal => obtain ⟨x2, e2, h2', h3, h4⟩ := h2; exact ⟨x2, e2, h2', .loop h1 h3, h4⟩
  | ret => exact ⟨_, _, _, .loop_out h1 (by simp), h2⟩
  | exit i => exact ⟨_, _, _, .loop_out h1 (by simp), h2⟩
/-- a loop by a measure: each round either leaves, or comes to a state that the relation holds with a lesser measure -/
theorem wp_loop_measure {live : List Nat} {a : VCode} {σ : Type} (I : σ → Env → H → Prop) (m : σ → Nat) (hI : ∀ s e h, I s e h → Env.mask live e = e)
    (step : ∀ s e h, I s e h → WP G P r a e h fun x e' h' => match x with | .normal => ∃ s', m s' < m s ∧ I s' (Env.mask live e') h' | x => Q x e' h') :
    ∀ n s e h, m s ≤ n → I s (Env.mask live e) h → WP G P r (.loop live a) e h Q
  | n, s, e, h, hn, hi => by
    refine wp_loop ((step s _ h hi).mono ?_)
    intro x e' h' hx
    cases x with
    | ret => exact hx
    | exit i => exact hx
    | normal =>
      obtain ⟨s', hlt, hi'⟩ := hx
      cases n with
      | zero => omega
      | succ n => exact wp_loop_measure I m hI step n s' e' h' (by omega) hi'

def WY (G : Globs) (P : Prog) (l : Nat) (args : List V) (h : H) (Q : V → H → Bool → Prop) : Prop := ∃ v h' p, Runs G P (.yield l args h) (.ret v h' p) ∧ Q v h' p
theorem wo_yield {d : Option Nat} {g : Option (Nat × Bool)} {re : List Nat} {f : Opd} {as : List Opd} {os : List VO} {l : Nat} {args : List V} (hg : guarded e g = some true) (hf : f.val G e = some (.yield l))
    (has : vals G e as = some args) (hc : WY G P l args h fun v h1 _ => again G e h1 all re = true ∧ WO G P all os (e.put d v) h1 K) : WO G P all (⟨d, g, .call false f as, re⟩ :: os) e h K := by
  obtain ⟨v, h1, p, hc, ha, e', h', h3, h4⟩ := hc
  exact ⟨e', h', .yield rfl hg hf has hc ha h3, h4⟩
theorem wy_body {l : Nat} {args : List V} {q : LoopRec} {R : V → H → Bool → Prop} (hq : h.get l = some (.loop q)) (he : putL q.env q.params args = some e1)
    (ha : WP G P (some l) q.assign e1 h fun x e2 h1 => x = .normal ∧ ∃ q1, h1.get l = some (.loop q1) ∧ q1.state = .ready ∧
      WP G P (some l) q.body e2 (h1.set l (.loop { q1 with state := .busy })) fun x _ h3 => ∃ q2, h3.get l = some (.loop q2) ∧ R (.bool x.code.isNone) (h3.set l (.loop { q2 with state := if x.code.isNone then .ready else .done, pending := x.code })) false) :
    WY G P l args h R := by
  obtain ⟨x, e2, h1, r1, rfl, q1, g1, s1, x', e3, h3, r2, q2, g2, hR⟩ := ha
  exact ⟨_, _, _, .yield hq he r1 g1 s1 r2 g2, hR⟩
theorem wp_range {f : Opd} {params live : List Nat} {assign body : VCode} {g : Nat} {first caps : List V} (hf : f.val G e = some (.func g first caps)) (hin : inLoop h r = true)
    (hc : WC G P g (first ++ [.yield h.next] ++ caps) (h.new (.loop { state := .ready, pending := none, env := Env.mask live e, params, assign, body })) fun _ h2 _ =>
      ∃ q, h2.get h.next = some (.loop q) ∧ q.state ≠ .busy ∧ Q (match q.pending with | none => .normal | some .ret => .ret | some (.exit id) => .exit id) e (h2.set h.next .dead)) :
    WP G P r (.rangeFunc f params assign body live) e h Q := by
  obtain ⟨v, h2, p, hr, q, hq, hb, hQ⟩ := hc
  exact ⟨_, _, _, .rangeFunc hf hin hr hq hb, hQ⟩

/-! what a call leaves -/
theorem get_keep {base i : Nat} (hi : i < base) (l : List (Nat × HObj)) : alook i (keepOld base l) = alook i l := by
  induction l with
  | nil => rfl
  | cons x l ih =>
    obtain ⟨j, o⟩ := x
    simp only [keepOld]
    cases hb : Nat.blt j base with
    | true => simp only [alook, ih]
    | false =>
      have hj : ¬ j < base := fun h => by rw [show Nat.blt j base = true from Nat.ble_eq_true_of_le h] at hb; cases hb
      have : Nat.beq j i = false := by
        cases hc : Nat.beq j i with
        | false => rfl
        | true => exact absurd hi (by rw [← Nat.eq_of_beq_eq_true hc]; exact hj)
      simp only [alook, this, ih]
/-- nothing that was there is turned -/
structure Eff (h h' : H) : Prop where
  next : h.next ≤ h'.next
  get : ∀ i, i < h.next → h'.get i = h.get i
  low : ∀ B, B ≤ h.low → B ≤ h.next → B ≤ h'.low
theorem Eff.refl {h : H} : Eff h h := ⟨Nat.le_refl _, fun _ _ => rfl, fun _ h _ => h⟩
theorem Eff.trans {h h' h'' : H} (a : Eff h h') (b : Eff h' h'') : Eff h h'' :=
  ⟨Nat.le_trans a.next b.next, fun i hi => (b.get i (Nat.lt_of_lt_of_le hi a.next)).trans (a.get i hi), fun B h1 h2 => b.low B (a.low B h1 h2) (Nat.le_trans h2 a.next)⟩
theorem Eff.new {h : H} {o : HObj} : Eff h (h.new o) := ⟨Nat.le_succ _, fun i hi => by
  simp only [H.get, H.new, alook]
  have : Nat.beq h.next i = false := by
    cases hc : Nat.beq h.next i with
    | false => rfl
    | true => exact absurd hi (by rw [← Nat.eq_of_beq_eq_true hc]; omega)
  rw [this], fun B h1 _ => h1⟩
/-- .. nor by a write into what is new -/
theorem Eff.set {h h' : H} (a : Eff h h') {i : Nat} {o : HObj} (hi : h.next ≤ i) : Eff h (h'.set i o) := by
  refine ⟨a.next, fun j hj => ?_, fun B h1 h2 => ?_⟩
  · rw [← a.get j hj]
    have hne : ¬ i = j := by omega
    simp only [H.get, H.set]
    induction h'.objs with
    | nil => rfl
    | cons x l ih =>
      obtain ⟨k, b⟩ := x
      simp only [aset]
      cases hb : Nat.beq k i with
      | true =>
        have hk := Nat.eq_of_beq_eq_true hb
        have : Nat.beq k j = false := by
          cases hc : Nat.beq k j with
          | false => rfl
          | true => exact absurd (hk.symm.trans (Nat.eq_of_beq_eq_true hc)) hne
        simp only [alook, this]
      | false => simp only [alook, ih]
  · show B ≤ min i h'.low
    have := a.low B h1 h2
    omega
theorem Eff.relow {h : H} : Eff h { h with low := h.next } := ⟨Nat.le_refl _, fun _ _ => rfl, fun _ _ h => h⟩
/-- a call, whatever it turned: what was there is as it left it -/
theorem wc_eff {f : Nat} {fn : VFunc} {args : List V} {R : V → H → Bool → Prop} (hf : P f = some fn) (hl : Nat.ble args.length fn.nt = true)
    (hb : WP G P none fn.body (bindArgs 0 args) { h with low := h.next } fun x e1 h1 => (x = .normal ∨ x = .ret) ∧ ∃ us, ressOf e1 h1 fn.results = some us ∧ h.next ≤ h1.next ∧
      (h1.low < h.next ∨ ∀ i, i < h.next → h1.get i = h.get i) ∧
      ∀ h2 p, h.next ≤ h2.next → (h2.low = h.low ∨ h2.low = min h.low h1.low) → (∀ i, i < h.next → h2.get i = h1.get i) → ((pack us).clasp.top ≤ h.next ∨ (h2.next = h1.next ∧ ∀ i, h2.get i = h1.get i)) → R (pack us).clasp h2 p) :
    WC G P f args h R := by
  refine wc_body hf hl (hb.mono ?_)
  rintro x e1 h1 ⟨hx, us, hu, hn, hsame, hR⟩
  refine ⟨hx, us, hu, ?_⟩
  unfold leave
  split
  · rename_i ht
    have ht' := Nat.le_of_ble_eq_true ht
    split
    · rename_i hlo
      have hlo' := Nat.le_of_ble_eq_true hlo
      refine hR h true (Nat.le_refl _) (.inl rfl) (fun i hi => ?_) (.inl ht')
      rcases hsame with h' | h'
      · omega
      · exact (h' i hi).symm
    · exact hR _ _ hn (.inr rfl) (fun i hi => rfl) (.inl ht')
  · exact hR _ _ hn (.inr rfl) (fun i _ => rfl) (.inr ⟨rfl, fun _ => rfl⟩)

/-! the heap -/
theorem get_new {i : Nat} {o : HObj} : (h.new o).get i = if i = h.next then some o else h.get i := by
  simp only [H.get, H.new, alook]
  cases hb : Nat.beq h.next i with
  | true => have := Nat.eq_of_beq_eq_true hb; simp [this.symm]
  | false =>
    have : ¬ i = h.next := fun e => by rw [e, Nat.beq_refl] at hb; cases hb
    simp [this]
theorem get_set {i j : Nat} {o : HObj} : (h.set j o).get i = if i = j then (h.get j).map (fun _ => o) else h.get i := by
  simp only [H.get, H.set]
  induction h.objs with
  | nil => simp [aset, alook]
  | cons x l ih =>
    obtain ⟨k, a⟩ := x
    simp only [aset]
    cases hb : Nat.beq k j with
    | true =>
      have := Nat.eq_of_beq_eq_true hb; subst this
      simp only [alook]
      by_cases hi : i = k
      · subst hi; simp [Nat.beq_refl]
      · have : Nat.beq k i = false := by cases hc : Nat.beq k i with | false => rfl | true => exact absurd (Nat.eq_of_beq_eq_true hc).symm hi
        simp [this, hi]
    | false =>
      simp only [alook]
      by_cases hi : i = k
      · subst hi
        have : ¬ i = j := fun e => by rw [e, Nat.beq_refl] at hb; cases hb
        simp [Nat.beq_refl, this]
      · have hk : Nat.beq k i = false := by cases hc : Nat.beq k i with | false => rfl | true => exact absurd (Nat.eq_of_beq_eq_true hc).symm hi
        simp only [hk, hb]
        exact ih
theorem next_new {o : HObj} : (h.new o).next = h.next + 1 := rfl
theorem next_set {i : Nat} {o : HObj} : (h.set i o).next = h.next := rfl
theorem low_new {o : HObj} : (h.new o).low = h.low := rfl
theorem low_set {i : Nat} {o : HObj} : (h.set i o).low = min i h.low := rfl
theorem low_mk {h : H} {n : Nat} : ({ h with low := n } : H).low = n := rfl
theorem next_mk {h : H} {n : Nat} : ({ h with low := n } : H).next = h.next := rfl
theorem get_mk {h : H} {n i : Nat} : ({ h with low := n } : H).get i = h.get i := rfl

theorem ne2 {n : Nat} : (n = n + 1 + 1) = False := eq_false (by omega)
theorem ne3 {n : Nat} : (n = n + 1 + 1 + 1) = False := eq_false (by omega)
theorem ne4 {n : Nat} : (n = n + 1 + 1 + 1 + 1) = False := eq_false (by omega)
theorem ne5 {n : Nat} : (n = n + 1 + 1 + 1 + 1 + 1) = False := eq_false (by omega)
theorem ne6 {n : Nat} : (n = n + 1 + 1 + 1 + 1 + 1 + 1) = False := eq_false (by omega)
theorem alook_hit {α : Type} {k i : Nat} {a : α} {l : List (Nat × α)} (hb : Nat.beq i k = true) : alook k ((i, a) :: l) = some a := by simp [alook, hb]
theorem alook_miss {α : Type} {k i : Nat} {a : α} {l : List (Nat × α)} (hb : Nat.beq i k = false) : alook k ((i, a) :: l) = alook k l := by simp [alook, hb]
theorem ar_add {k : IntKind} {a b : Int} : arith .add (.int k a) (.int k b) = some (.int k (k.wrap (a + b))) := by simp [arith]
theorem ar_sub {k : IntKind} {a b : Int} : arith .sub (.int k a) (.int k b) = some (.int k (k.wrap (a - b))) := by simp [arith]
theorem ar_mul {k : IntKind} {a b : Int} : arith .mul (.int k a) (.int k b) = some (.int k (k.wrap (a * b))) := by simp [arith]
theorem ar_quo {k : IntKind} {a b : Int} : arith .quo (.int k a) (.int k b) = if b = 0 then none else some (.int k (k.wrap (a.tdiv b))) := by simp [arith]
theorem ar_rem {k : IntKind} {a b : Int} : arith .rem (.int k a) (.int k b) = if b = 0 then none else some (.int k (a.tmod b)) := by simp [arith]
theorem ar_eql {k : IntKind} {a b : Int} : arith .eql (.int k a) (.int k b) = some (.bool (a == b)) := by simp [arith]
theorem ar_neq {k : IntKind} {a b : Int} : arith .neq (.int k a) (.int k b) = some (.bool (a != b)) := by simp [arith]
theorem ar_lss {k : IntKind} {a b : Int} : arith .lss (.int k a) (.int k b) = some (.bool (a < b)) := by simp [arith]
theorem ar_leq {k : IntKind} {a b : Int} : arith .leq (.int k a) (.int k b) = some (.bool (a ≤ b)) := by simp [arith]
theorem ar_gtr {k : IntKind} {a b : Int} : arith .gtr (.int k a) (.int k b) = some (.bool (a > b)) := by simp [arith]
theorem ar_geq {k : IntKind} {a b : Int} : arith .geq (.int k a) (.int k b) = some (.bool (a ≥ b)) := by simp [arith]
theorem ble0 (n : Nat) : Nat.ble 0 n = true := by cases n <;> rfl
theorem bleR (n : Nat) : Nat.ble n n = true := by rw [Nat.ble_eq]; exact Nat.le_refl n
theorem wrap64 {n : Int} (h1 : -9223372036854775808 ≤ n) (h2 : n ≤ 9223372036854775807) : IntKind.wrap .i64 n = n := by
  unfold IntKind.wrap
  simp only [IntKind.bits, IntKind.signed]
  simp
  omega
/-- a call that either writes into what was there, or leaves it -/
theorem wc_split {f : Nat} {fn : VFunc} {args : List V} {R : V → H → Bool → Prop} (hf : P f = some fn) (hl : Nat.ble args.length fn.nt = true)
    (hb : WP G P none fn.body (bindArgs 0 args) { h with low := h.next } fun x e1 h1 => (x = .normal ∨ x = .ret) ∧ ∃ us, ressOf e1 h1 fn.results = some us ∧ h.next ≤ h1.next ∧
      ((h1.low < h.next ∧ R (pack us).clasp { h1 with low := min h.low h1.low } false) ∨ (Eff { h with low := h.next } h1 ∧ ∀ h2 p, Eff h h2 → R (pack us).clasp h2 p))) :
    WC G P f args h R := by
  refine wc_body hf hl (hb.mono ?_)
  rintro x e1 h1 ⟨hx, us, hu, hn, hR⟩
  refine ⟨hx, us, hu, ?_⟩
  rcases hR with ⟨hlo, hR⟩ | ⟨he, hR⟩
  · unfold leave
    split
    · split
      · rename_i hlo'
        have := Nat.le_of_ble_eq_true hlo'
        omega
      · exact hR
    · exact hR
  · have hg : ∀ i, i < h.next → h1.get i = h.get i := fun i hi => he.get i hi
    unfold leave
    split
    · split
      · exact hR _ _ Eff.refl
      · exact hR _ _ ⟨hn, hg, fun B c1 c2 => by
          have := he.low B c2 c2
          show B ≤ min h.low h1.low
          omega⟩
    · exact hR _ _ ⟨hn, hg, fun B c1 c2 => by
        have := he.low B c2 c2
        show B ≤ min h.low h1.low
        omega⟩
end
end Go.Vi
