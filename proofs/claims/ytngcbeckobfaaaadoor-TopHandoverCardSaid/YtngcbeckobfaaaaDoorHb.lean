/- TopHandover answers true, whatever its arguments: the tied card. No condition. -/
import Derived.Test.YtngcbeckobfaaaaDoorHa
import Derived.Test.YtngcbeckobfaaaaDoorRg
import Derived.Test.YtngcbeckobfaaaaDoorRowA
set_option linter.unusedSimpArgs false
set_option linter.unusedVariables false
namespace Go.Vi.Tryd
open Go Go.Vi

theorem oks_cons {t : Ty} {ts : List Ty} {vs : List V} (h : Ty.oks (t :: ts) vs) : ∃ a b, vs = a ++ b ∧ t.ok a ∧ Ty.oks ts b := h
theorem ok_int {k : IntKind} {vs : List V} (h : (Ty.int k).ok vs) : ∃ n, (Lit.int k n).wf = true ∧ vs = [.int k n] := h
theorem agg_of {v : V} (h : v.isAgg = true) : v = .agg v.cells := by
  cases v <;> simp [V.isAgg] at h <;> rfl
theorem one_of {v w : V} (h : v.isAgg = false) (hc : v.cells = [w]) : v = w := by
  cases v <;> simp [V.isAgg] at h <;> simp [V.cells] at hc <;> exact hc

def tyM : Ty := .struct [.int .i64, .int .i64, .struct [.int .i64, .int .i64], .int .i64]
theorem machine_of {v : V} (ha : v.isAgg = true) (h : tyM.ok v.cells) : ∃ m : M, v = m.v := by
  obtain ⟨a, b, e1, h1, h2⟩ := oks_cons (show Ty.oks [.int .i64, .int .i64, .struct [.int .i64, .int .i64], .int .i64] v.cells from h)
  obtain ⟨x1, -, rfl⟩ := ok_int h1
  obtain ⟨a2, b2, rfl, h3, h4⟩ := oks_cons h2
  obtain ⟨x2, -, rfl⟩ := ok_int h3
  obtain ⟨a3, b3, rfl, h5, h6⟩ := oks_cons h4
  obtain ⟨a4, b4, rfl, h7, h8⟩ := oks_cons (show Ty.oks [.int .i64, .int .i64] a3 from h5)
  obtain ⟨x3, -, rfl⟩ := ok_int h7
  obtain ⟨a5, b5, rfl, h9, h10⟩ := oks_cons h8
  obtain ⟨x4, -, rfl⟩ := ok_int h9
  obtain ⟨a6, b6, rfl, h11, h12⟩ := oks_cons h6
  obtain ⟨x5, -, rfl⟩ := ok_int h11
  have e10 : b5 = [] := h10
  have e12 : b6 = [] := h12
  subst e10; subst e12
  exact ⟨⟨x1, x2, x3, x4, x5⟩, by rw [agg_of ha, e1]; rfl⟩
theorem machines_of : ∀ {es : List V}, (∀ v ∈ es, v.isAgg = true ∧ tyM.ok v.cells) → ∃ ms : List M, es = ms.map M.v
  | [], _ => ⟨[], rfl⟩
  | v :: es, h => by
    obtain ⟨m, rfl⟩ := machine_of (h v (List.mem_cons_self ..)).1 (h v (List.mem_cons_self ..)).2
    obtain ⟨ms, rfl⟩ := machines_of fun w hw => h w (List.mem_cons_of_mem _ hw)
    exact ⟨m :: ms, rfl⟩
theorem store_of {v : V} (ha : v.isAgg = true) (h : Go.Proofs.YtngcbeckobfaaaaDoor.tyStore.ok v.cells) : ∃ s : St, v = s.v ∧ (∀ id, s.t ≠ .own id) ∧ s.ms.length ≤ 9223372036854775807 := by
  obtain ⟨a, b, e1, h1, h2⟩ := oks_cons (show Ty.oks [.int .i64, .int .i64, .slice 5 tyM] v.cells from h)
  obtain ⟨x1, -, rfl⟩ := ok_int h1
  obtain ⟨a2, b2, rfl, h3, h4⟩ := oks_cons h2
  obtain ⟨x2, -, rfl⟩ := ok_int h3
  obtain ⟨a3, b3, rfl, h5, h6⟩ := oks_cons h4
  obtain ⟨es, t, rfl, ht, hl, hes⟩ := (show ∃ es t, a3 = [.slice 5 es t] ∧ (t = .any ∨ t = .nil ∧ es = []) ∧ es.length ≤ maxLen ∧ ∀ v ∈ es, v.isAgg = tyM.agg ∧ tyM.ok v.cells from h5)
  have e6 : b3 = [] := h6
  subst e6
  obtain ⟨ms, rfl⟩ := machines_of hes
  refine ⟨⟨x1, x2, ms, t⟩, by rw [agg_of ha, e1]; rfl, ?_, ?_⟩
  · rintro id rfl
    rcases ht with ht | ⟨ht, -⟩ <;> cases ht
  · have : (ms.map M.v).length ≤ 2 ^ 63 - 1 := hl
    simpa using this
theorem top_eval (us : List V) (h : Ty.ins Go.Proofs.YtngcbeckobfaaaaDoor.insH us) : ∃ n h' p, eval globs prog n (.call 3 us H.start) = some (.ret (.bool true) h' p) := by
  obtain ⟨u0, r, rfl, h1, h2, u1, r1, rfl, h3, h4, h5⟩ := (show ∃ u r, us = u :: r ∧ u.isAgg = true ∧ Go.Proofs.YtngcbeckobfaaaaDoor.tyStore.ok u.cells ∧ ∃ u1 r1, r = u1 :: r1 ∧ u1.isAgg = false ∧ (Ty.int .i64).ok u1.cells ∧ r1 = [] from h)
  subst h5
  obtain ⟨s, rfl, ht, hl⟩ := store_of h1 h2
  obtain ⟨n, hn, hc⟩ := ok_int h4
  obtain rfl := one_of h3 hc
  have hn' : -9223372036854775808 ≤ n ∧ n ≤ 9223372036854775807 := by
    simp only [Lit.wf, Bool.and_eq_true, decide_eq_true_eq] at hn
    exact hn
  obtain ⟨v, h', p, ⟨k, hk⟩, rfl⟩ := top_run (fun h c1 c2 => ring_run c1 c2) s n ht hl hn'
  exact ⟨k, h', p, hk⟩
end Go.Vi.Tryd
namespace Go.Proofs.YtngcbeckobfaaaaDoor
/-- **TopHandover's tied card.** -/
theorem topHandover_card : Rows.TopHandoverCardSaid := card Go.Vi.Tryd.top_eval
#print axioms topHandover_card
end Go.Proofs.YtngcbeckobfaaaaDoor
