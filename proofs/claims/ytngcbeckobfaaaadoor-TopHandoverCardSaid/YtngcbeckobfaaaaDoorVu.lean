/- Comparing values cell by cell; keys of maps. No statement of a claim stands here. -/
import Derived.Test.YtngcbeckobfaaaaDoorVt
set_option linter.unusedSimpArgs false
set_option linter.unusedVariables false
namespace Go.Vi
open Go

section
variable {P : Program} {w : World} {κ : K}

/-- the value of a type whose cells these are -/
def Shaped (P : Program) (t : TypeId) (cs : List Value) (X : Value) : Prop :=
  match P.underlying t with
  | some (.struct _) | some (.array _ _) => X = .agg ⟨cs⟩
  | _ => cs = [X]

theorem part_shaped {d : Nat} {t : TypeId} {ks : List (Option IntKind)} (hf : flatK P d t = some ks) (hs : sizeT P t = some ks.length) {xs : List Value} {off : Nat} (hl : off + ks.length ≤ xs.length) :
    ∃ X, (part t ⟨xs⟩ off).run P w = .ok X w ∧ Shaped P t ((xs.drop off).take ks.length) X := by
  cases d with
  | zero => simp [flatK] at hf
  | succ d =>
    unfold flatK at hf
    have one : ks.length = 1 → (isAgg t).run P w = .ok false w → (∀ cs X, cs = [X] → Shaped P t cs X) → ∃ X, (part t ⟨xs⟩ off).run P w = .ok X w ∧ Shaped P t ((xs.drop off).take ks.length) X := by
      intro h1 h2 h3
      obtain ⟨x, hx⟩ : ∃ x, xs[off]? = some x := ⟨xs[off]'(by omega), List.getElem?_eq_getElem _⟩
      have hx' : (⟨xs⟩ : Array Value)[off]? = some x := by simpa using hx
      refine ⟨x, by simp only [part, Sem.run_bind, h2, Result.andThen_ok, Bool.false_eq_true, if_false, Sem.run_ite, hx', Sem.run_pure], h3 _ _ ?_⟩
      obtain ⟨hlt, rfl⟩ := List.getElem?_eq_some_iff.1 hx
      rw [h1, List.drop_eq_getElem_cons hlt]
      rfl
    have agg : (isAgg t).run P w = .ok true w → (∀ cs, Shaped P t cs (.agg ⟨cs⟩)) → ∃ X, (part t ⟨xs⟩ off).run P w = .ok X w ∧ Shaped P t ((xs.drop off).take ks.length) X := by
      intro h2 h3
      refine ⟨.agg ((⟨xs⟩ : Array Value).extract off (off + ks.length)), by simp only [part, Sem.run_bind, h2, Result.andThen_ok, if_true, Sem.run_ite, run_sizeOf_of hs, Sem.run_pure], ?_⟩
      have : (⟨xs⟩ : Array Value).extract off (off + ks.length) = ⟨(xs.drop off).take ks.length⟩ := by apply Array.ext'; simp [List.extract]
      rw [this]
      exact h3 _
    cases hu : P.underlying t with
    | none => simp [hu] at hf
    | some td =>
      rw [hu] at hf
      cases td <;> simp only at hf <;> try (cases hf; done)
      · cases hf; exact one rfl (by simp [isAgg, run_underlying hu]) (by simp [Shaped, hu])
      · cases hf; exact one rfl (by simp [isAgg, run_underlying hu]) (by simp [Shaped, hu])
      · exact agg (by simp [isAgg, run_underlying hu]) (by simp [Shaped, hu])
      · exact agg (by simp [isAgg, run_underlying hu]) (by simp [Shaped, hu])

theorem eqL_one {x y : V} {r : Bool} (h : eqL [x] [y] = some r) : eq1 x y = some r := by
  simp only [eqL] at h
  split at h <;> simp_all
theorem eqL_append : ∀ {a b c d : List V}, a.length = b.length → eqL (a ++ c) (b ++ d) = match eqL a b with | some true => eqL c d | r => r
  | [], [], c, d, _ => by simp [eqL]
  | x :: a, y :: b, c, d, h => by
    simp only [List.cons_append, eqL]
    cases eq1 x y with
    | none => rfl
    | some r =>
      cases r with
      | false => rfl
      | true => exact eqL_append (by simpa using h)
  | [], _ :: _, _, _, h => by simp at h
  | _ :: _, [], _, _, h => by simp at h

theorem kinds_length : ∀ {ks : List (Option IntKind)} {vs : List V}, kindsOk ks vs = true → vs.length = ks.length
  | [], [], _ => rfl
  | some k :: ks, v :: vs, h => by cases v <;> simp [kindsOk] at h; simp [kinds_length h.2]
  | none :: ks, v :: vs, h => by cases v <;> simp [kindsOk] at h; simp [kinds_length h]
  | [], _ :: _, h => by simp [kindsOk] at h
  | some _ :: _, [], h => by simp [kindsOk] at h
  | none :: _, [], h => by simp [kindsOk] at h
theorem kinds_take : ∀ {k1 k2 : List (Option IntKind)} {vs : List V}, kindsOk (k1 ++ k2) vs = true → kindsOk k1 (vs.take k1.length) = true ∧ kindsOk k2 (vs.drop k1.length) = true
  | [], k2, vs, h => by simpa [kindsOk] using h
  | some k :: k1, k2, v :: vs, h => by cases v <;> simp [kindsOk] at h ⊢; exact ⟨⟨h.1, (kinds_take h.2).1⟩, (kinds_take h.2).2⟩
  | none :: k1, k2, v :: vs, h => by cases v <;> simp [kindsOk] at h ⊢; exact kinds_take h
  | some _ :: _, _, [], h => by simp [kindsOk] at h
  | none :: _, _, [], h => by simp [kindsOk] at h

def EqF (P : Program) (d : Nat) (t : TypeId) (ks : List (Option IntKind)) : Prop :=
  ∀ (w : World) (κ : K) (us vs : List V) (xs ys : List Value) (r : Bool) (X Y : Value), VRL w κ us xs → VRL w κ vs ys → kindsOk ks us = true → us.length = vs.length → eqL us vs = some r →
    Shaped P t xs X → Shaped P t ys Y → (Op.equalIn d t X Y).run P w = .ok r w

theorem run_eqFields_flat (d m : Nat) (rec : ∀ t ks, flatK P m t = some ks → EqF P d t ks) (w : World) (κ : K) (us vs : List V) (xs ys : List Value) (hx : VRL w κ us xs) (hy : VRL w κ vs ys) (hlen : us.length = vs.length) :
    ∀ (fs : List Field) (off : Nat) (ks : List (Option IntKind)) (r : Bool), flatFields P (flatK P m) off fs = some ks → kindsOk ks (us.drop off) = true → off ≤ us.length → eqL (us.drop off) (vs.drop off) = some r →
      (Op.eqFields d ⟨xs⟩ ⟨ys⟩ fs).run P w = .ok r w
  | [], off, ks, r, hf, hk, ho, he => by
    simp only [flatFields, Option.some.injEq] at hf; subst hf
    have h1 := kinds_length hk
    have h2 : us.drop off = [] := List.length_eq_zero_iff.1 h1
    have h3 : vs.drop off = [] := List.length_eq_zero_iff.1 (by simp at h1 ⊢; omega)
    rw [h2, h3] at he
    simp only [eqL, Option.some.injEq] at he; subst he
    simp [Op.eqFields]
  | f :: fs, off, ks, r, hf, hk, ho, he => by
    simp only [flatFields] at hf
    split at hf
    · cases hf
    · rename_i hn
      split at hf
      · rename_i hoff
        split at hf
        · rename_i k hfk
          split at hf
          · rename_i hsz
            simp only [Option.map_eq_some_iff] at hf
            obtain ⟨ks', hf', rfl⟩ := hf
            obtain ⟨hk1, hk2⟩ := kinds_take hk
            have hul := hx.length
            have hvl := hy.length
            have hk1l := kinds_length hk1
            simp only [List.length_take, List.length_drop] at hk1l
            have e1 : us.drop off = (us.drop off).take k.length ++ us.drop (off + k.length) := by rw [← List.drop_drop, List.take_append_drop]
            have e2 : vs.drop off = (vs.drop off).take k.length ++ vs.drop (off + k.length) := by rw [← List.drop_drop, List.take_append_drop]
            rw [e1, e2, eqL_append (by simp; omega)] at he
            obtain ⟨X, px, sx⟩ := part_shaped (w := w) hfk hsz (xs := xs) (off := off) (by omega)
            obtain ⟨Y, py, sy⟩ := part_shaped (w := w) hfk hsz (xs := ys) (off := off) (by omega)
            have hname : f.name ≠ "_" := by simpa using hn
            have hrec := fun r' hr' => rec f.type k hfk w κ _ _ _ _ r' X Y ((hx.drop off).take k.length) ((hy.drop off).take k.length) hk1 (by simp; omega) hr' sx sy
            rw [← hoff] at px py
            simp only [Op.eqFields, hname, ne_eq, not_false_eq_true, if_true, Sem.run_bind, px, py, Result.andThen_ok]
            rw [List.drop_drop] at hk2
            split at he
            · rename_i h1
              rw [hrec true h1]
              simpa using run_eqFields_flat d m rec w κ us vs xs ys hx hy hlen fs (off + k.length) ks' r hf' hk2 (by omega) he
            · rename_i h1
              cases r with
              | true => exact absurd he h1
              | false => rw [hrec false he]; simp
          · cases hf
        · cases hf
      · cases hf

theorem run_eqItems_flat (d : Nat) {el : TypeId} {k : List (Option IntKind)} {m : Nat} (hfk : flatK P m el = some k) (hsz : sizeT P el = some k.length) (rec : EqF P d el k)
    (w : World) (κ : K) (us vs : List V) (xs ys : List Value) (hx : VRL w κ us xs) (hy : VRL w κ vs ys) (hlen : us.length = vs.length) :
    ∀ (n i : Nat) (r : Bool), kindsOk (List.replicate n k).flatten (us.drop (i * k.length)) = true → i * k.length ≤ us.length → eqL (us.drop (i * k.length)) (vs.drop (i * k.length)) = some r →
      (Op.eqItems d el k.length ⟨xs⟩ ⟨ys⟩ (List.range' i n)).run P w = .ok r w
  | 0, i, r, hk, ho, he => by
    have h1 := kinds_length hk
    have h2 : us.drop (i * k.length) = [] := List.length_eq_zero_iff.1 (by simpa using h1)
    have h3 : vs.drop (i * k.length) = [] := List.length_eq_zero_iff.1 (by simp at h1 ⊢; omega)
    rw [h2, h3] at he
    simp only [eqL, Option.some.injEq] at he; subst he
    simp [Op.eqItems]
  | n + 1, i, r, hk, ho, he => by
    rw [List.replicate_succ, List.flatten_cons] at hk
    obtain ⟨hk1, hk2⟩ := kinds_take hk
    have hul := hx.length
    have hvl := hy.length
    have hk1l := kinds_length hk1
    simp only [List.length_take, List.length_drop] at hk1l
    have e1 : us.drop (i * k.length) = (us.drop (i * k.length)).take k.length ++ us.drop ((i + 1) * k.length) := by rw [Nat.succ_mul, ← List.drop_drop, List.take_append_drop]
    have e2 : vs.drop (i * k.length) = (vs.drop (i * k.length)).take k.length ++ vs.drop ((i + 1) * k.length) := by rw [Nat.succ_mul, ← List.drop_drop, List.take_append_drop]
    rw [e1, e2, eqL_append (by simp; omega)] at he
    obtain ⟨X, px, sx⟩ := part_shaped (w := w) hfk hsz (xs := xs) (off := i * k.length) (by omega)
    obtain ⟨Y, py, sy⟩ := part_shaped (w := w) hfk hsz (xs := ys) (off := i * k.length) (by omega)
    have hrec := fun r' hr' => rec w κ _ _ _ _ r' X Y ((hx.drop (i * k.length)).take k.length) ((hy.drop (i * k.length)).take k.length) hk1 (by simp; omega) hr' sx sy
    rw [List.range'_succ]
    simp only [Op.eqItems, Sem.run_bind, px, py, Result.andThen_ok]
    rw [List.drop_drop, ← Nat.succ_mul] at hk2
    split at he
    · rename_i h1
      rw [hrec true h1]
      simpa using run_eqItems_flat d hfk hsz rec w κ us vs xs ys hx hy hlen n (i + 1) r hk2 (by rw [Nat.succ_mul]; omega) he
    · rename_i h1
      cases r with
      | true => exact absurd he h1
      | false => rw [hrec false he]; simp

theorem equal_flat (d : Nat) : ∀ (m : Nat) (t : TypeId) (ks : List (Option IntKind)), flatK P m t = some ks → EqF P (d + m) t ks
  | 0, t, ks, hf => by simp [flatK] at hf
  | m + 1, t, ks, hf => by
    intro w κ us vs xs ys r X Y hx hy hk hlen he sX sY
    unfold flatK at hf
    cases hu : P.underlying t with
    | none => simp [hu] at hf
    | some td =>
      rw [hu] at hf
      unfold Shaped at sX sY
      rw [hu] at sX sY
      cases td <;> simp only at hf sX sY <;> try (cases hf; done)
      · cases hf
        subst sX sY
        cases hx with
        | cons u us x _ hux hus =>
          cases hus
          cases hy with
          | cons v vs y _ hvy hvs =>
            cases hvs
            cases u <;> simp [kindsOk] at hk
            have he2 := eqL_one he
            clear he
            cases v <;> simp [eq1] at he2
            rw [hux.bool_inv, hvy.bool_inv]
            rw [show d + (m + 1) = (d + m) + 1 from rfl, run_equalIn_bool w (d + m) t _ _ hu, he2]
      · rename_i k0
        cases hf
        subst sX sY
        cases hx with
        | cons u us x _ hux hus =>
          cases hus
          cases hy with
          | cons v vs y _ hvy hvs =>
            cases hvs
            cases u <;> simp [kindsOk] at hk
            have he2 := eqL_one he
            clear he
            cases v <;> simp [eq1] at he2
            rw [hux.int_inv, hvy.int_inv]
            obtain ⟨rfl, he2⟩ := he2
            rw [show d + (m + 1) = (d + m) + 1 from rfl, run_equalIn_int w (d + m) t _ k0 _ _ hu, he2]
      · rename_i n el
        split at hf
        · rename_i k hfk
          split at hf
          · rename_i hsz
            cases hf
            subst sX sY
            obtain ⟨i, hi⟩ : ∃ i, P.info? el = some i := by
              unfold sizeT at hsz
              cases hh : P.info? el with
              | none => simp [hh] at hsz
              | some i => exact ⟨i, rfl⟩
            have hcs : P.cellsOf el = k.length := by unfold sizeT at hsz; unfold Program.cellsOf; rw [hsz]; rfl
            rw [show d + (m + 1) = (d + m) + 1 from rfl, run_equalIn_array w (d + m) ⟨xs⟩ ⟨ys⟩ hu hi, hcs, List.range_eq_range']
            exact run_eqItems_flat (d + m) hfk hsz (equal_flat d m el k hfk) w κ us vs xs ys hx hy hlen n 0 r (by simpa using hk) (by simp) (by simpa using he)
          · cases hf
        · cases hf
      · rename_i fs
        split at hf
        · cases hf
        · rename_i hst
          subst sX sY
          have hfs : P.fieldsOf t = fs := by simp [Program.fieldsOf, hu]
          rw [show d + (m + 1) = (d + m) + 1 from rfl, run_equalIn_struct w (d + m) t ⟨xs⟩ ⟨ys⟩ (by rw [hfs]; exact hu) (by simpa using hst), hfs]
          exact run_eqFields_flat (d + m) m (fun t' ks' h' => equal_flat d m t' ks' h') w κ us vs xs ys hx hy hlen fs.toList 0 ks r hf (by simpa using hk) (by simp) (by simpa using he)
end
end Go.Vi
