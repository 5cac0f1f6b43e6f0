/- Every operation of the plain reading but a call, against the model's. No statement of a claim stands here. -/
import Derived.Test.YtngcbeckobfaaaaDoorVza
set_option linter.unusedSimpArgs false
set_option linter.unusedVariables false
namespace Go.Vi
open Go

section
variable {P : Program} {chk : Nat → Code → VCode → Bool} {w w' : World} {κ : K} {h h' : H} {G : Globs} {e : Env} {a : Act} {o : Oper} {v : V}

theorem opds1 {args : List Operand} {y : Opd} (h : opdsOk args [y] = true) : ∃ x, args = [x] ∧ opdOk x y = true := by
  cases args with
  | nil => simp [opdsOk] at h
  | cons x xs =>
    cases xs with
    | nil => exact ⟨x, rfl, by simpa [opdsOk] using h⟩
    | cons _ _ => simp [opdsOk] at h
theorem toList_eq1 {α : Type} {xs : Array α} {x : α} (h : xs.toList = [x]) : xs = #[x] := by apply Array.ext'; simpa using h

theorem ev_sound (hG : GR w κ G) (hE : ER w κ e a.tmps) (R : Rel chk κ h w) {vo : VOp} (hc : chkOp P o.op vo = true) (hv : ev G e h vo = some (v, h')) : Done P chk o a w κ h' v := by
  cases vo
  case move y =>
    generalize hop : o.op = op at hc
    cases op <;> simp only [chkOp] at hc <;> try (cases hc; done)
    · exact do_move hG hE R (.inl hop) hc hv
    · exact do_move hG hE R (.inr hop) hc hv
  case freeze k ag y =>
    have key : ∀ x, (o.op = .move x ∨ o.op = .assign x) → opdOk x y = true → Done P chk o a w κ h' v := by
      intro x hx hc
      have hv0 := hv
      simp only [ev, Option.bind_eq_bind, Option.bind_eq_some_iff] at hv0
      obtain ⟨u, hu, hv0⟩ := hv0
      split at hv0
      · exact do_freeze_hs hG hE R hx hc hu hv
      · split at hv0
        · rename_i hk; subst hk; exact do_freeze_slice hG hE R hx hc hu hv
        · cases hv0
      · cases hv0
    generalize hop : o.op = op at hc
    cases op <;> simp only [chkOp] at hc <;> try (cases hc; done)
    · exact key _ (.inl hop) hc
    · exact key _ (.inr hop) hc
  case pick c' x' y' =>
    generalize hop : o.op = op at hc
    cases op <;> simp only [chkOp] at hc <;> try (cases hc; done)
    simp only [Bool.and_eq_true] at hc
    exact do_pick hG hE R hop hc.1.1 hc.1.2 hc.2 hv
  case alloc z =>
    generalize hop : o.op = op at hc
    cases op <;> simp only [chkOp] at hc <;> try (cases hc; done)
    split at hc
    · rename_i hz; exact do_alloc R hop hz hc hv
    · cases hc
  case box y =>
    generalize hop : o.op = op at hc
    cases op <;> simp only [chkOp] at hc <;> try (cases hc; done)
    exact do_box hG hE R hop hc hv
  case build z qs =>
    generalize hop : o.op = op at hc
    cases op <;> simp only [chkOp] at hc <;> try (cases hc; done)
    simp only [Bool.and_eq_true] at hc
    obtain ⟨h1, h2⟩ := hc
    split at h1
    · rename_i zv hz
      split at h2
      · rename_i fs hu
        simp only [Bool.and_eq_true] at h2
        exact do_build_struct hG hE R hop hz h1 hu h2.1 h2.2 hv
      · rename_i n el hu
        split at h2
        · rename_i k hk; exact do_build_array hG hE R hop hz h1 hu hk h2 hv
        · cases h2
      · cases h2
    · cases h1
  case mkslice k qs =>
    generalize hop : o.op = op at hc
    cases op <;> simp only [chkOp] at hc <;> try (cases hc; done)
    split at hc
    · rename_i el hu
      simp only [Bool.and_eq_true, decide_eq_true_eq, Nat.beq_eq, Nat.ble_eq] at hc
      obtain ⟨⟨⟨⟨⟨h1, h2⟩, h3⟩, h4⟩, h5⟩, h6⟩ := hc
      obtain ⟨zv, hz⟩ := Option.isSome_iff_exists.1 h5
      exact do_mkslice hG hE R hop hu h1 h4 h2 h3 hz h6 hv
    · cases hc
  case load s y =>
    generalize hop : o.op = op at hc
    cases op <;> simp only [chkOp] at hc <;> try (cases hc; done)
    simp only [Bool.and_eq_true, decide_eq_true_eq] at hc
    exact do_load hG hE R hop hc.1 hc.2 hv
  case store n y u =>
    generalize hop : o.op = op at hc
    cases op <;> simp only [chkOp] at hc <;> try (cases hc; done)
    simp only [Bool.and_eq_true, decide_eq_true_eq, Nat.ble_eq] at hc
    exact do_store hG hE R hop hc.1.1.1 hc.1.1.2 hc.1.2 hc.2 hv
  case bin op' x' y' =>
    generalize hop : o.op = op at hc
    cases op <;> simp only [chkOp] at hc <;> try (cases hc; done)
    simp only [Bool.and_eq_true, decide_eq_true_eq] at hc
    obtain ⟨⟨rfl, h1⟩, h2⟩ := hc
    exact do_bin hG hE R hop h1 h2 hv
  case eql ag ks neg x' y' =>
    generalize hop : o.op = op at hc
    cases op <;> simp only [chkOp] at hc <;> try (cases hc; done)
    simp only [Bool.and_eq_true, decide_eq_true_eq, Bool.not_eq_true'] at hc
    obtain ⟨⟨⟨⟨⟨h1, h2⟩, h3⟩, h4⟩, h5⟩, h6⟩ := hc
    exact do_eql hG hE R hop h1 h4 h5 h6 h2 h3 hv
  case isnil kd neg x' =>
    generalize hop : o.op = op at hc
    cases op <;> simp only [chkOp] at hc <;> try (cases hc; done)
    simp only [Bool.and_eq_true, decide_eq_true_eq] at hc
    exact do_isnil hG hE R hop hc.1.1 hc.1.2 hc.2 hv
  case not y =>
    generalize hop : o.op = op at hc
    cases op <;> simp only [chkOp] at hc <;> try (cases hc; done)
    rename_i u t x
    cases u <;> simp only [chkOp] at hc <;> try (cases hc; done)
    exact do_not hG hE R hop hc hv
  case neg y =>
    generalize hop : o.op = op at hc
    cases op <;> simp only [chkOp] at hc <;> try (cases hc; done)
    rename_i u t x
    cases u <;> simp only [chkOp] at hc <;> try (cases hc; done)
    exact do_neg hG hE R hop hc hv
  case mkfunc f x' y' =>
    generalize hop : o.op = op at hc
    cases op <;> simp only [chkOp] at hc <;> try (cases hc; done)
    rename_i fn x y
    cases fn <;> simp only [chkOp] at hc <;> try (cases hc; done)
    simp only [Bool.and_eq_true, Nat.beq_eq] at hc
    obtain ⟨⟨rfl, h1⟩, h2⟩ := hc
    exact do_mkfunc hG hE R hop h1 h2 hv
  case mkmap =>
    generalize hop : o.op = op at hc
    cases op <;> simp only [chkOp] at hc <;> try (cases hc; done)
    rename_i t r
    cases r <;> simp only [chkOp] at hc <;> try (cases hc; done)
    exact do_mkmap R hop hv
  case slc k x' lo' hi' mx' =>
    generalize hop : o.op = op at hc
    cases op <;> simp only [chkOp] at hc <;> try (cases hc; done)
    simp only [Bool.and_eq_true] at hc
    obtain ⟨⟨⟨⟨⟨h1, h2⟩, h3⟩, h4⟩, h5⟩, h6⟩ := hc
    split at h1
    · rename_i hu
      simp only [decide_eq_true_eq] at h1
      exact do_slc hG hE R hop hu h1 h2 h3 h4 h5 h6 hv
    · cases h1
  case slca n k x' hi' =>
    generalize hop : o.op = op at hc
    cases op <;> simp only [chkOp] at hc <;> try (cases hc; done)
    rename_i t x lo hi mx
    cases lo <;> cases mx <;> simp only [chkOp] at hc <;> try (cases hc; done)
    simp only [Bool.and_eq_true] at hc
    obtain ⟨⟨h1, h2⟩, h3⟩ := hc
    split at h1
    · rename_i hu
      simp only [Bool.and_eq_true, Nat.beq_eq, decide_eq_true_eq] at h1
      obtain ⟨rfl, h1⟩ := h1
      exact do_slca hG hE R hop hu h1 h2 h3 hv
    · cases h1
  case fieldAddr off s y =>
    generalize hop : o.op = op at hc
    cases op <;> simp only [chkOp] at hc <;> try (cases hc; done)
    simp only [Bool.and_eq_true] at hc
    obtain ⟨h1, h2⟩ := hc
    split at h1
    · rename_i fs hu
      split at h1
      · rename_i f hf
        simp only [Bool.and_eq_true, Nat.beq_eq, decide_eq_true_eq] at h1
        obtain ⟨⟨⟨⟨h3, h4⟩, h5⟩, h6⟩, _⟩ := h1
        obtain ⟨n, hn⟩ := Option.isSome_iff_exists.1 h6
        exact do_fieldAddr hG hE R hop hu hf h3 hn (by rintro rfl; exact h5 hn) h2 hv
      · cases h1
    · cases h1
  case field off s y =>
    generalize hop : o.op = op at hc
    cases op <;> simp only [chkOp] at hc <;> try (cases hc; done)
    simp only [Bool.and_eq_true] at hc
    obtain ⟨h1, h2⟩ := hc
    split at h1
    · rename_i fs hu
      split at h1
      · rename_i f hf
        simp only [Bool.and_eq_true, Nat.beq_eq, decide_eq_true_eq] at h1
        exact do_field hG hE R hop hu hf h1.1 h1.2 h2 hv
      · cases h1
    · cases h1
  case idxAddr arr k ag y j =>
    generalize hop : o.op = op at hc
    cases op <;> simp only [chkOp] at hc <;> try (cases hc; done)
    simp only [Bool.and_eq_true] at hc
    obtain ⟨⟨h1, h2⟩, h3⟩ := hc
    split at h1
    · rename_i n el m hu
      simp only [Bool.and_eq_true, Nat.beq_eq, decide_eq_true_eq] at h1
      obtain ⟨⟨⟨rfl, h4⟩, _⟩, _⟩ := h1
      exact do_idxAddr_arr hG hE R hop hu h4 h2 h3 hv
    · rename_i el hu
      simp only [decide_eq_true_eq] at h1
      exact do_idxAddr_slice hG hE R hop hu h1 h2 h3 hv
    · cases h1
  case idx n k ag y j =>
    generalize hop : o.op = op at hc
    cases op <;> simp only [chkOp] at hc <;> try (cases hc; done)
    simp only [Bool.and_eq_true] at hc
    obtain ⟨⟨h1, h2⟩, h3⟩ := hc
    split at h1
    · rename_i m el hu
      simp only [Bool.and_eq_true, Nat.beq_eq, decide_eq_true_eq] at h1
      obtain ⟨⟨rfl, h4⟩, h5⟩ := h1
      exact do_idx hG hE R hop hu h4 h5 h2 h3 hv
    · cases h1
  case lookup ag ks z ok' y j =>
    generalize hop : o.op = op at hc
    cases op <;> simp only [chkOp] at hc <;> try (cases hc; done)
    simp only [Bool.and_eq_true] at hc
    obtain ⟨⟨⟨h1, h2⟩, h3⟩, h4⟩ := hc
    simp only [beq_iff_eq] at h2
    subst h2
    split at h1
    · rename_i kt et hu
      simp only [Bool.and_eq_true, decide_eq_true_eq] at h1
      obtain ⟨⟨⟨h5, h6⟩, h7⟩, h8⟩ := h1
      split at h8
      · rename_i zv hz; exact do_lookup hG hE R hop hu h5 h6 h7 hz h8 h3 h4 hv
      · cases h8
    · cases h1
  case mapset ag ks m' k' v' =>
    generalize hop : o.op = op at hc
    cases op <;> simp only [chkOp] at hc <;> try (cases hc; done)
    all_goals
      simp only [Bool.and_eq_true] at hc
      obtain ⟨⟨⟨h1, h2⟩, h3⟩, h4⟩ := hc
      split at h1
      · rename_i kt et hu
        simp only [Bool.and_eq_true, decide_eq_true_eq] at h1
        exact do_mapset hG hE R (by first | exact .inl hop | exact .inr hop) hu h1.1.1 h1.1.2 h1.2 h2 h3 h4 hv
      · cases h1
  case extract y j =>
    generalize hop : o.op = op at hc
    cases op <;> simp only [chkOp] at hc <;> try (cases hc; done)
    simp only [Bool.and_eq_true, Nat.beq_eq] at hc
    obtain ⟨rfl, h1⟩ := hc
    exact do_extract hG hE R hop h1 hv
  case call => simp [ev] at hv
  case bad => simp [ev] at hv
  case append k x y =>
    generalize hop : o.op = op at hc
    cases op <;> simp only [chkOp] at hc <;> try (cases hc; done)
    rename_i c
    obtain ⟨cal, args, tys⟩ := c
    cases cal <;> (try simp only [chkOp] at hc) <;> try (cases hc; done)
    rename_i b
    cases b <;> (try simp only [chkOp] at hc) <;> try (cases hc; done)
    simp only [Bool.and_eq_true] at hc
    obtain ⟨h1, h2⟩ := hc
    split at h1
    · rename_i s u hs hu
      split at h1
      · rename_i el e2 hus huu
        split at h1
        · rename_i i hi
          simp only [Bool.and_eq_true, Nat.beq_eq, Nat.ble_eq] at h1
          obtain ⟨⟨⟨⟨h3, h4⟩, h5⟩, h6⟩, h7⟩ := h1
          split at h7
          · rename_i z hz
            rw [Nat.beq_eq] at h7
            exact do_append hG hE R hop ⟨rfl, ⟨s, u, e2, hs, hu, hus, huu⟩, hi, h3, h4, by omega, hz, h7⟩ h2 hv
          · cases h7
        · cases h1
      · cases h1
    · cases h1
  case len x =>
    generalize hop : o.op = op at hc
    cases op <;> simp only [chkOp] at hc <;> try (cases hc; done)
    rename_i c
    obtain ⟨cal, args, tys⟩ := c
    cases cal <;> (try simp only [chkOp] at hc) <;> try (cases hc; done)
    rename_i b
    cases b <;> (try simp only [chkOp] at hc) <;> try (cases hc; done)
    simp only [Bool.and_eq_true] at hc
    obtain ⟨h1, h2⟩ := hc
    obtain ⟨y, hy, hop'⟩ := opds1 h2
    split at h1
    · rename_i t ht
      split at h1
      · rename_i el hu; exact do_len hG hE R hop rfl (toList_eq1 hy) ht hu hop' hv
      · cases h1
    · cases h1
  case mlen x =>
    generalize hop : o.op = op at hc
    cases op <;> simp only [chkOp] at hc <;> try (cases hc; done)
    rename_i c
    obtain ⟨cal, args, tys⟩ := c
    cases cal <;> (try simp only [chkOp] at hc) <;> try (cases hc; done)
    rename_i b
    cases b <;> (try simp only [chkOp] at hc) <;> try (cases hc; done)
    simp only [Bool.and_eq_true] at hc
    obtain ⟨h1, h2⟩ := hc
    obtain ⟨y, hy, hop'⟩ := opds1 h2
    split at h1
    · rename_i t ht
      split at h1
      · rename_i kt et hu; exact do_mlen hG hE R hop rfl (toList_eq1 hy) ht hu hop' hv
      · cases h1
    · cases h1
  case lenc n =>
    generalize hop : o.op = op at hc
    cases op <;> simp only [chkOp] at hc <;> try (cases hc; done)
    rename_i c
    obtain ⟨cal, args, tys⟩ := c
    cases cal <;> (try simp only [chkOp] at hc) <;> try (cases hc; done)
    rename_i b
    cases b <;> (try simp only [chkOp] at hc) <;> try (cases hc; done)
    simp only [Bool.and_eq_true, Nat.ble_eq] at hc
    obtain ⟨h1, h2⟩ := hc
    split at h1
    · rename_i t ht
      split at h1
      · rename_i m el hu
        rw [Nat.beq_eq] at h1; subst h1
        exact do_lenc R hop rfl h2 ht hu hv
      · cases h1
    · cases h1
  case min xs =>
    generalize hop : o.op = op at hc
    cases op <;> simp only [chkOp] at hc <;> try (cases hc; done)
    rename_i c
    obtain ⟨cal, args, tys⟩ := c
    cases cal <;> (try simp only [chkOp] at hc) <;> try (cases hc; done)
    rename_i b
    cases b <;> (try simp only [chkOp] at hc) <;> try (cases hc; done)
    exact do_minmax hG hE R (mx := false) hop rfl hc hv
  case max xs =>
    generalize hop : o.op = op at hc
    cases op <;> simp only [chkOp] at hc <;> try (cases hc; done)
    rename_i c
    obtain ⟨cal, args, tys⟩ := c
    cases cal <;> (try simp only [chkOp] at hc) <;> try (cases hc; done)
    rename_i b
    cases b <;> (try simp only [chkOp] at hc) <;> try (cases hc; done)
    exact do_minmax hG hE R (mx := true) hop rfl hc hv
  case mkarr k z l' =>
    generalize hop : o.op = op at hc
    cases op <;> simp only [chkOp] at hc <;> try (cases hc; done)
    simp only [Bool.and_eq_true] at hc
    obtain ⟨⟨h1, h2⟩, h3⟩ := hc
    split at h1
    · rename_i el hu
      split at h1
      · rename_i i hi
        simp only [Bool.and_eq_true, Nat.beq_eq, Nat.ble_eq] at h1
        obtain ⟨⟨⟨h4, h5⟩, h6⟩, h7⟩ := h1
        split at h7
        · rename_i zv hz
          simp only [Bool.and_eq_true, Nat.beq_eq] at h7
          exact do_mkarr hG hE R hop hu hi h4 h5 h6 hz h7.2 h7.1 h2 h3 hv
        · cases h7
      · cases h1
    · cases h1
  case mkcap k l' c' =>
    generalize hop : o.op = op at hc
    cases op <;> simp only [chkOp] at hc <;> try (cases hc; done)
    simp only [Bool.and_eq_true] at hc
    obtain ⟨⟨h1, h2⟩, h3⟩ := hc
    split at h1
    · rename_i el hu
      split at h1
      · rename_i i hi
        simp only [Bool.and_eq_true, Nat.beq_eq, Nat.ble_eq] at h1
        obtain ⟨⟨⟨h4, h5⟩, h6⟩, h7⟩ := h1
        split at h7
        · rename_i zv hz
          rw [Nat.beq_eq] at h7
          exact do_mkcap hG hE R hop hu hi h4 h5 h6 hz h7 h2 h3 hv
        · cases h7
      · cases h1
    · cases h1
end
end Go.Vi
