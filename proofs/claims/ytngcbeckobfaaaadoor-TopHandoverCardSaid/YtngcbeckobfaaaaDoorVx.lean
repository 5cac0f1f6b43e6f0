/- Maps of the plain reading against the model's. No statement of a claim stands here. -/
import Derived.Test.YtngcbeckobfaaaaDoorVv
set_option linter.unusedSimpArgs false
set_option linter.unusedVariables false
namespace Go.Vi
open Go

def mfind (k : V) : List (V × V) → Option (Option Nat)
  | [] => some none
  | (k', _) :: r =>
    match eqv k k' with
    | some true => some (some 0)
    | some false => (mfind k r).map (Option.map (· + 1))
    | none => none
theorem mlook_eq (k : V) : ∀ es : List (V × V), mlook k es = (mfind k es).map fun o => o.bind fun j => (es[j]?).map (·.2)
  | [] => rfl
  | (k', v) :: r => by
    simp only [mlook, mfind]
    cases eqv k k' with
    | none => rfl
    | some b =>
      cases b with
      | true => rfl
      | false =>
        simp only [mlook_eq k r]
        cases mfind k r with
        | none => rfl
        | some o => cases o <;> simp
theorem mset_eq (k u : V) : ∀ es : List (V × V), mset k u es = (mfind k es).map fun o => match o with | none => es ++ [(k, u)] | some j => es.set j (k, u)
  | [] => rfl
  | (k', v) :: r => by
    simp only [mset, mfind]
    cases eqv k k' with
    | none => rfl
    | some b =>
      cases b with
      | true => rfl
      | false =>
        simp only [mset_eq k u r]
        cases mfind k r with
        | none => rfl
        | some o => cases o <;> simp
theorem mfind_lt {k : V} : ∀ {es : List (V × V)} {j : Nat}, mfind k es = some (some j) → j < es.length ∧ ∃ k' v, es[j]? = some (k', v) ∧ eqv k k' = some true
  | [], j, h => by simp [mfind] at h
  | (k', v) :: r, j, h => by
    simp only [mfind] at h
    split at h
    · rename_i he
      simp only [Option.some.injEq] at h; subst h
      exact ⟨by simp, k', v, rfl, he⟩
    · simp only [Option.map_eq_some_iff] at h
      obtain ⟨o, ho, h⟩ := h
      obtain ⟨i, rfl, rfl⟩ := h
      obtain ⟨h1, k2, v2, h2, h3⟩ := mfind_lt ho
      exact ⟨by simp; omega, k2, v2, by simpa using h2, h3⟩
    · cases h

section
variable {P : Program} {chk : Nat → Code → VCode → Bool} {w : World} {κ : K} {h h' : H} {G : Globs} {e : Env} {a : Act} {o : Oper} {v : V}

theorem MR.get : ∀ {es : List (V × V)} {ms : List MapEntry}, MR w κ es ms → ∀ {j : Nat} {k v : V}, es[j]? = some (k, v) → ∃ m, ms[j]? = some m ∧ VR w κ k m.key ∧ VR w κ v m.val
  | _, _, .nil, j, k, v, h => by simp at h
  | _, _, .cons k0 v0 es m ms hk hv hr, j, k, v, h => by
    cases j with
    | zero => simp at h; obtain ⟨rfl, rfl⟩ := h; exact ⟨m, rfl, hk, hv⟩
    | succ j => simpa using hr.get (by simpa using h)
theorem MR.set : ∀ {es : List (V × V)} {ms : List MapEntry}, MR w κ es ms → ∀ (j : Nat) (k v : V) (m : MapEntry), VR w κ k m.key → VR w κ v m.val → MR w κ (es.set j (k, v)) (ms.set j m)
  | _, _, .nil, j, k, v, m, _, _ => by simpa using .nil
  | _, _, .cons k0 v0 es m0 ms hk hv hr, j, k, v, m, h1, h2 => by
    cases j with
    | zero => exact .cons _ _ _ _ _ h1 h2 hr
    | succ j => exact .cons _ _ _ _ _ hk hv (hr.set j k v m h1 h2)
theorem MR.snoc : ∀ {es : List (V × V)} {ms : List MapEntry}, MR w κ es ms → ∀ (k v : V) (m : MapEntry), VR w κ k m.key → VR w κ v m.val → MR w κ (es ++ [(k, v)]) (ms ++ [m])
  | _, _, .nil, k, v, m, h1, h2 => .cons _ _ _ _ _ h1 h2 .nil
  | _, _, .cons k0 v0 es m0 ms hk hv hr, k, v, m, h1, h2 => .cons _ _ _ _ _ hk hv (hr.snoc k v m h1 h2)

theorem flat_agg {m : Nat} {t : TypeId} {ks : List (Option IntKind)} (hf : flatK P m t = some ks) : (∃ td, P.underlying t = some td ∧ ((∃ fs, td = .struct fs) ∨ ∃ n el, td = .array n el)) ∨ (∃ td, P.underlying t = some td ∧ ks.length = 1 ∧ (td = .bool ∨ ∃ k, td = .int k)) := by
  cases m with
  | zero => simp [flatK] at hf
  | succ m =>
    unfold flatK at hf
    cases hu : P.underlying t with
    | none => simp [hu] at hf
    | some td =>
      rw [hu] at hf
      cases td <;> simp only at hf <;> try (cases hf; done)
      · cases hf; exact .inr ⟨_, rfl, rfl, .inl rfl⟩
      · cases hf; exact .inr ⟨_, rfl, rfl, .inr ⟨_, rfl⟩⟩
      · exact .inl ⟨_, rfl, .inr ⟨_, _, rfl⟩⟩
      · exact .inl ⟨_, rfl, .inl ⟨_, rfl⟩⟩

theorem run_findKey {t : TypeId} {ag : Bool} {ks : List (Option IntKind)} (hf : flatK P 100 t = some ks) (ha : aggT P t = ag) {u : V} {x : Value} (hu : VR w κ u x) (hk : keyOk ag ks u = true) :
    ∀ {es : List (V × V)} {ms : List MapEntry}, MR w κ es ms → ∀ r, mfind u es = some r → (Instr.findKey t x ms).run P w = .ok (r.bind fun j => (ms[j]?).map fun m => (j, m.val)) w := by
  have asking : ∀ {es : List (V × V)} {ms : List MapEntry}, MR w κ es ms → ∀ (r : Option Nat) (i : Nat), mfind u es = some r → (Instr.findAsking t x ms i).run P w = .ok (r.bind fun j => (ms[j]?).map fun m => (i + j, m.val)) w := by
    intro es ms hm
    induction hm with
    | nil => intro r i hr; simp only [mfind, Option.some.injEq] at hr; subst hr; simp [Instr.findAsking]
    | cons k0 v0 es m ms hk0 hv0 hr0 ih =>
      intro r i hr
      simp only [mfind] at hr
      split at hr
      · rename_i he
        simp only [Option.some.injEq] at hr; subst hr
        simp [Instr.findAsking, run_equal hf ha hu hk0 hk he]
      · rename_i he
        simp only [Option.map_eq_some_iff] at hr
        obtain ⟨r', hr', rfl⟩ := hr
        simp only [Instr.findAsking, Sem.run_bind, run_equal hf ha hu hk0 hk he, Result.andThen_ok, Bool.false_eq_true, if_false, Sem.run_ite]
        rw [ih r' (i + 1) hr']
        cases r' with
        | none => rfl
        | some j => simp [Nat.add_assoc, Nat.add_comm 1 j]
      · cases hr
  intro es ms hm r hr
  rcases flat_agg hf with ⟨td, htd, hag⟩ | ⟨td, htd, _, hsc⟩
  · -- a struct or an array: each key is asked
    have h0 := asking hm r 0 hr
    simp only [Nat.zero_add] at h0
    unfold Instr.findKey
    simp only [Sem.run_bind, run_underlying htd, Result.andThen_ok]
    cases hm with
    | nil => simp only [mfind, Option.some.injEq] at hr; subst hr; simp [Instr.findNow]
    | cons k0 v0 es m ms hk0 hv0 hr0 =>
      have hnone : Instr.findNow td x (m :: ms) 0 = none := by
        rcases hag with ⟨fs, rfl⟩ | ⟨n, el, rfl⟩ <;> simp [Instr.findNow, Instr.sameNow]
      rw [hnone]
      exact h0
  · -- an integer or a bool: the keys are looked at
    have now : ∀ {es : List (V × V)} {ms : List MapEntry}, MR w κ es ms → ∀ (r : Option Nat) (i : Nat), mfind u es = some r → Instr.findNow td x ms i = some (r.bind fun j => (ms[j]?).map fun m => (i + j, m.val)) := by
      have hag : ag = false := by
        unfold aggT at ha
        rw [htd] at ha
        rcases hsc with rfl | ⟨k, rfl⟩ <;> simpa using ha.symm
      subst hag
      have hsame : ∀ k0 m, VR w κ k0 m → ∀ b, eqv u k0 = some b → Instr.sameNow td x m = some b := by
        intro k0 m hk0 b he
        have he1 : eq1 u k0 = some b := by
          unfold eqv at he
          split at he
          · simp [keyOk] at hk
          · exact he
        have hks : kindsOk ks [u] = true := by cases u <;> simp_all [keyOk]
        unfold eq1 at he1
        split at he1
        · split at he1
          · rename_i hkk; subst hkk
            rw [hu.int_inv, hk0.int_inv]
            rcases hsc with rfl | ⟨k, rfl⟩
            · exfalso
              have : flatK P 100 t = some [none] := by unfold flatK; rw [htd]
              rw [hf] at this; cases this
              simp [kindsOk] at hks
            · simpa [Instr.sameNow] using he1
          · cases he1
        · rw [hu.bool_inv, hk0.bool_inv]
          rcases hsc with rfl | ⟨k, rfl⟩
          · simpa [Instr.sameNow] using he1
          · exfalso
            have : flatK P 100 t = some [some k] := by unfold flatK; rw [htd]
            rw [hf] at this; cases this
            simp [kindsOk] at hks
        · cases he1
      intro es ms hm
      induction hm with
      | nil => intro r i hr; simp only [mfind, Option.some.injEq] at hr; subst hr; simp [Instr.findNow]
      | cons k0 v0 es m ms hk0 hv0 hr0 ih =>
        intro r i hr
        simp only [mfind] at hr
        split at hr
        · rename_i he
          simp only [Option.some.injEq] at hr; subst hr
          simp [Instr.findNow, hsame _ _ hk0 _ he]
        · rename_i he
          simp only [Option.map_eq_some_iff] at hr
          obtain ⟨r', hr', rfl⟩ := hr
          simp only [Instr.findNow, hsame _ _ hk0 _ he]
          rw [ih r' (i + 1) hr']
          cases r' with
          | none => rfl
          | some j => simp [Nat.add_assoc, Nat.add_comm 1 j]
        · cases hr
    have h0 := now hm r 0 hr
    simp only [Nat.zero_add] at h0
    simp only [Instr.findKey, Sem.run_bind, run_underlying htd, Result.andThen_ok, h0, Sem.run_pure]

theorem run_checkKey_of {t : TypeId} {ag : Bool} {ks : List (Option IntKind)} (hf : flatK P 100 t = some ks) (ha : aggT P t = ag) (hn : noArr P 100 t = true) {u : V} {x : Value} (hu : VR w κ u x) (hk : keyOk ag ks u = true) (em : Bool) :
    (Instr.checkKey em 10000 t x).run P w = .ok () w := by
  obtain ⟨us, xs, hl, hks, sx, _⟩ := shaped_of (P := P) hu hk ha
  exact run_checkKey_flat em 100 t ks hf hn 9900 w xs x (by rw [← hl.length]; exact kinds_length hks) sx

theorem do_lookup (hG : GR w κ G) (hE : ER w κ e a.tmps) (R : Rel chk κ h w) {t kt et : TypeId} {x y : Operand} {x' y' : Opd} {ok ag : Bool} {ks : List (Option IntKind)} {z : V} {zv : Value} (ho : o.op = .lookup t x y ok)
    (hu : P.underlying t = some (.map kt et)) (hf : flatK P 100 kt = some ks) (ha : aggT P kt = ag) (hn : noArr P 100 kt = true) (hz : zeroT P et = some zv) (hzc : elemOk zv z = true) (hx : opdOk x x' = true) (hy : opdOk y y' = true)
    (hv : ev G e h (.lookup ag ks z ok x' y') = some (v, h')) : Done P chk o a w κ h' v := by
  simp only [ev] at hv
  split at hv
  · rename_i kv mv hkv hmv
    have hrk := opd_sound hG hE hy hkv
    have hrm := opd_sound hG hE hx hmv
    split at hv
    case h_2 => cases hv
    rename_i hk
    split at hv
    case h_2 => cases hv
    rename_i es hes
    split at hv
    case h_2 => cases hv
    rename_i r hr
    have hzr := (elemOk_sound (w := w) (κ := κ) hzc).1
    have fin : ∀ (es : Array MapEntry) (r2 : Option (Nat × Value)) , (a.eval x = .map none ∧ es = #[] ∨ ∃ r cl, a.eval x = .map (some r) ∧ w.heap[r]? = some (.map es cl)) → (Instr.findKey kt (a.eval y) es.toList).run P w = .ok r2 w →
        (execOp a.eval o).run P w = .ok (.value (if ok then .tuple #[(r2.map (·.2)).getD zv, .bool r2.isSome] else (r2.map (·.2)).getD zv)) w := by
      intro es r2 h1 h2
      have hck := run_checkKey_of hf ha hn hrk hk (P := P) (w := w)
      rcases h1 with ⟨hxx, rfl⟩ | ⟨r, cl, hxx, hB⟩
      · simp only [execOp, ho, Instr.lookup, Sem.run_bind, run_underlying hu, Result.andThen_ok, hxx, Sem.run_pure, hck, h2]
        cases r2 with
        | none => simp [run_zero_of hz]
        | some p => obtain ⟨i, q⟩ := p; simp
      · have hgo : (getObj r).run P w = .ok (.map es cl) w := by simp [getObj, Sem.run, hB]
        simp only [execOp, ho, Instr.lookup, Sem.run_bind, run_underlying hu, Result.andThen_ok, hxx, hgo, Sem.run_pure, hck, h2]
        cases r2 with
        | none => simp [run_zero_of hz]
        | some p => obtain ⟨i, q⟩ := p; simp
    have out : ∀ (r2 : Option (Nat × Value)) (es : Array MapEntry), (a.eval x = .map none ∧ es = #[] ∨ ∃ r cl, a.eval x = .map (some r) ∧ w.heap[r]? = some (.map es cl)) → (Instr.findKey kt (a.eval y) es.toList).run P w = .ok r2 w →
        ((r = none ∧ r2 = none) ∨ ∃ u i q, r = some u ∧ r2 = some (i, q) ∧ VR w κ u q) → Done P chk o a w κ h' v := by
      intro r2 es h1 h2 h3
      have hfin := fin es r2 h1 h2
      simp only [Option.some.injEq, Prod.mk.injEq] at hv
      obtain ⟨rfl, rfl⟩ := hv
      refine .quiet R hfin ?_
      rcases h3 with ⟨rfl, rfl⟩ | ⟨u, i, q, rfl, rfl, hq⟩ <;> cases ok
      · exact hzr
      · exact .tuple _ [zv, .bool false] (.cons _ _ _ _ hzr (.cons _ _ _ _ (.bool _) .nil))
      · exact hq
      · exact .tuple _ [q, .bool true] (.cons _ _ _ _ hq (.cons _ _ _ _ (.bool _) .nil))
    rw [mlook_eq] at hr
    simp only [Option.map_eq_some_iff] at hr
    obtain ⟨j, hj, rfl⟩ := hr
    have outm : ∀ ms, MR w κ es ms → (a.eval x = .map none ∧ (⟨ms⟩ : Array MapEntry) = #[] ∨ ∃ r cl, a.eval x = .map (some r) ∧ w.heap[r]? = some (.map ⟨ms⟩ cl)) → Done P chk o a w κ h' v := by
      intro ms hm h1
      refine out _ ⟨ms⟩ h1 (run_findKey hf ha hrk hk hm j hj) ?_
      cases j with
      | none => exact .inl ⟨rfl, rfl⟩
      | some j =>
        obtain ⟨_, k', v', h1, _⟩ := mfind_lt hj
        obtain ⟨m, h2, _, h3⟩ := hm.get h1
        exact .inr ⟨v', j, m.val, by simp [h1], by simp [h2], h3⟩
    unfold mapOf at hes
    split at hes
    · cases hes
      exact outm [] .nil (.inl ⟨hrm.nilm_inv, rfl⟩)
    · split at hes
      · rename_i hg
        cases hes
        obtain ⟨_, hxx⟩ := hrm.map_inv
        obtain ⟨ms, cl, hB, hm⟩ := (R.obj _ _ hg).2
        exact outm ms hm (.inr ⟨_, cl, hxx, hB⟩)
      · cases hes
    · cases hes
  · cases hv

theorem sameBits_eq1 {u v : V} {x y : Value} (hu : VR w κ u x) (hv : VR w κ v y) (he : eq1 u v = some true) (n : Nat) : Instr.sameBits n y x = true := by
  unfold eq1 at he
  split at he
  · split at he
    · rename_i hk; subst hk
      rw [hu.int_inv, hv.int_inv]
      simp only [Option.some.injEq, beq_iff_eq] at he
      simp [Instr.sameBits, he]
    · cases he
  · rw [hu.bool_inv, hv.bool_inv]
    simp only [Option.some.injEq, beq_iff_eq] at he
    simp [Instr.sameBits, he]
  · cases he
theorem sameBits_eqL : ∀ {us vs : List V} {xs ys : List Value}, VRL w κ us xs → VRL w κ vs ys → us.length = vs.length → eqL us vs = some true → ∀ n, ((ys.zip xs).all fun (p, q) => Instr.sameBits n p q) = true
  | _, _, _, _, .nil, .nil, _, _, n => rfl
  | _, _, _, _, .cons u us x xs hu hus, .cons v vs y ys hv hvs, hl, he, n => by
    simp only [eqL] at he
    split at he
    · rename_i h1
      simp only [List.zip_cons_cons, List.all_cons, Bool.and_eq_true]
      exact ⟨sameBits_eq1 hu hv h1 n, sameBits_eqL hus hvs (by simpa using hl) he n⟩
    · cases he
    · cases he
  | _, _, _, _, .nil, .cons _ _ _ _ _ _, hl, _, _ => by simp at hl
  | _, _, _, _, .cons _ _ _ _ _ _, .nil, hl, _, _ => by simp at hl
theorem sameBits_eqv {u v : V} {x y : Value} (hu : VR w κ u x) (hv : VR w κ v y) (he : eqv u v = some true) : Instr.sameBits 10000 y x = true := by
  unfold eqv at he
  split at he
  · split at he
    · rename_i hl
      obtain ⟨xs, rfl, h1⟩ := hu.agg_inv
      obtain ⟨ys, rfl, h2⟩ := hv.agg_inv
      have := sameBits_eqL h1 h2 hl he 9999
      have e1 := h1.length
      have e2 := h2.length
      show (_ && _) = true
      simp only [Bool.and_eq_true, beq_iff_eq]
      exact ⟨by simp; omega, this⟩
    · cases he
  · exact sameBits_eq1 hu hv he 10000

theorem putObj_other (w : World) (r : Nat) (ob : Obj) {b : Nat} (hb : b ≠ r) : (w.putObj r ob).heap[b]? = w.heap[b]? := by
  simp only [World.putObj, Array.getElem?_setIfInBounds, if_neg (fun e : r = b => hb e.symm)]

theorem do_mapset (hG : GR w κ G) (hE : ER w κ e a.tmps) (R : Rel chk κ h w) {t kt et : TypeId} {m k u : Operand} {m' k' u' : Opd} {ag : Bool} {ks : List (Option IntKind)} (ho : o.op = .mapUpdate t m k u ∨ o.op = .insert t m k u)
    (hu : P.underlying t = some (.map kt et)) (hf : flatK P 100 kt = some ks) (ha : aggT P kt = ag) (hn : noArr P 100 kt = true) (hm : opdOk m m' = true) (hk : opdOk k k' = true) (huu : opdOk u u' = true)
    (hv : ev G e h (.mapset ag ks m' k' u') = some (v, h')) : Done P chk o a w κ h' v := by
  simp only [ev] at hv
  split at hv
  · rename_i kv vv b hkv hvv hmv
    have hrk := opd_sound hG hE hk hkv
    have hrv := opd_sound hG hE huu hvv
    have hrm := opd_sound hG hE hm hmv
    split at hv
    · rename_i hkk
      split at hv
      · rename_i es hg
        split at hv
        case h_2 => cases hv
        rename_i es' hes
        simp only [Option.some.injEq, Prod.mk.injEq] at hv
        obtain ⟨rfl, rfl⟩ := hv
        obtain ⟨_, hxx⟩ := hrm.map_inv
        obtain ⟨ms, cl, hB, hmr⟩ := (R.obj _ _ hg).2
        have hlt := (Array.getElem?_eq_some_iff.1 hB).1
        rw [mset_eq] at hes
        simp only [Option.map_eq_some_iff] at hes
        obtain ⟨j, hj, rfl⟩ := hes
        have hfk := run_findKey hf ha hrk hkk hmr j hj
        have hgo : (getObj (κ.mu b)).run P w = .ok (.map ⟨ms⟩ cl) w := by simp [getObj, Sem.run, hB]
        have hso : ∀ ob, (setObj (κ.mu b) ob).run P w = .ok () (w.putObj (κ.mu b) ob) := by intro ob; simp [setObj, Sem.run, hB, World.putObj]
        have hck := run_checkKey_of hf ha hn hrk hkk false (P := P) (w := w)
        have fin : ∀ (ms' : List MapEntry) (cl' : Nat) (es2 : List (V × V)), (Instr.mapUpdate t (a.eval m) (a.eval k) (a.eval u)).run P w = .ok () (w.putObj (κ.mu b) (.map ⟨ms'⟩ cl')) → MR w κ es2 ms' → Done P chk o a w κ (h.set b (.map es2)) .undef := by
          intro ms' cl' es2 hrun hm2
          obtain ⟨X, R'⟩ := R.write (w' := w.putObj (κ.mu b) (.map ⟨ms'⟩ cl')) (q := .map es2) hg rfl rfl (fun B off hf => hf) (fun c hc => putObj_other w _ _ hc) (by simp [World.putObj])
            (fun B off hs => cell_of_heap (putObj_other w _ _ (fun e => R.sdis b _ hg B off hs e)) off)
            (fun X => ⟨ms', cl', World.putObj_heap_same hlt, hm2.mono X⟩)
          refine ⟨κ, _, undef, .inr ⟨?_, rfl⟩, X, R', .undef _⟩
          rcases ho with ho | ho <;> simp [execOp, ho, hrun]
        cases j with
        | none =>
          refine fin (ms ++ [⟨a.eval k, a.eval u, cl⟩]) (cl + 1) _ ?_ (hmr.snoc _ _ _ hrk hrv)
          simp only [Option.bind_none] at hfk
          simp only [Instr.mapUpdate, Sem.run_bind, run_underlying hu, Result.andThen_ok, hxx, hgo, hck, hfk]
          have : (⟨ms⟩ : Array MapEntry).push ⟨a.eval k, a.eval u, cl⟩ = ⟨ms ++ [⟨a.eval k, a.eval u, cl⟩]⟩ := by apply Array.ext'; simp
          rw [this]
          exact hso _
        | some j =>
          obtain ⟨hjl, k2, v2, h1, h2⟩ := mfind_lt hj
          obtain ⟨m0, h3, h4, h5⟩ := hmr.get h1
          have hsb := sameBits_eqv hrk h4 h2
          refine fin (ms.set j { m0 with key := a.eval k, val := a.eval u }) cl _ ?_ (hmr.set j _ _ _ hrk hrv)
          simp only [Option.bind_some, h3, Option.map_some] at hfk
          have h3' : (⟨ms⟩ : Array MapEntry)[j]? = some m0 := by simpa using h3
          have hks : (Instr.keyThatStays m0.key (a.eval k)).run P w = .ok (a.eval k) w := by simp [Instr.keyThatStays, hsb]
          simp only [Instr.mapUpdate, Sem.run_bind, run_underlying hu, Result.andThen_ok, hxx, hgo, hck, hfk, h3', Option.map_some, Option.getD_some, hks]
          have : (⟨ms⟩ : Array MapEntry).modify j (fun e => { e with key := a.eval k, val := a.eval u }) = ⟨ms.set j { m0 with key := a.eval k, val := a.eval u }⟩ := by
            apply Array.ext'
            apply List.ext_getElem?
            intro i
            simp only [Array.getElem?_toList, Array.getElem?_modify, List.getElem?_set]
            by_cases hij : j = i
            · subst hij
              obtain ⟨hlj, hmj⟩ := List.getElem?_eq_some_iff.1 h3
              simp [hlj, hmj]
            · simp [hij]
          rw [this]
          exact hso _
      · cases hv
    · cases hv
  · cases hv
end
end Go.Vi
