/- The row and the card of TopHandover out of: its plain run answers true whatever the arguments. No condition. -/
import Derived.Test.YtngcbeckobfaaaaDoorRows
import Derived.Test.YtngcbeckobfaaaaDoorCards
import Derived.Test.YtngcbeckobfaaaaDoorTie
import Derived.Test.YtngcbeckobfaaaaDoorVl
import Derived.Test.YtngcbeckobfaaaaDoorVj1
import Derived.ChangeSame
import Derived.ChangeVars
import Derived.JoinedOf
import Derived.RowKit
import Derived.RowKitTokens
import Derived.LaidLaws
import Derived.LaidHandle
import Derived.Stop.Joined
import Derived.SevenTiedAt
set_option linter.unusedSimpArgs false
set_option linter.unusedVariables false
namespace Go.Proofs.YtngcbeckobfaaaaDoor
open Go Go.Vi Go.ChangeShapes Go.WideShapes Go.RowKit

theorem Tryd.own : ownKnob Tryd.prog.godebug = none := by kernel_rfl
theorem Tryd.laidOut : laidOutB Tryd.prog = true := by kernel_rfl

def lastsNames : List String := ["(remontoir/spare.machine).stint", "(remontoir/spare.machine).last"]
def kindsNames : List String := ["(remontoir/beat.cellar).grows", "(remontoir/beat.cellar).reads", "(remontoir/beat.cellar).holds"]
theorem lasts_table : (Rows.laid_remontoir_spare_lasts : DataW Unit) = .iface "func table" (tableOf lastsNames) := by kernel_rfl
theorem kinds_table : (Rows.laid_remontoir_beat_kinds : DataW Unit) = .iface "func table" (tableOf kindsNames) := by kernel_rfl

def tyStore : Ty := .struct [.int .i64, .int .i64, .slice 5 (.struct [.int .i64, .int .i64, .struct [.int .i64, .int .i64], .int .i64])]
def insH : List Ty := [tyStore, .int .i64]

theorem globs_laid {W : World} (h : laidMetH Tryd.prog Rows.topHandoverRow.laid W) : GR W (K.start W) Vi.Tryd.globs := by
  have h1 : funcsAt Tryd.prog W "remontoir/spare.lasts" (tableOf lastsNames) := h.funcs (List.mem_cons_of_mem _ (by rw [← lasts_table]; exact List.mem_singleton.2 rfl))
  have h2 : funcsAt Tryd.prog W "remontoir/beat.kinds" (tableOf kindsNames) := h.funcs (by rw [← kinds_table]; exact List.mem_cons_self ..)
  exact GR.cons (glob_funcs (fs := [33, 68]) (g := 2) (t := 222) (e := 221) (by kernel_rfl) (by kernel_rfl) (by kernel_rfl) ⟨_, _, _, Tryd.underlying221⟩ (by kernel_rfl) (by kernel_rfl) (by decide) (by kernel_rfl) h1)
    (GR.cons (glob_funcs (fs := [171, 172, 173]) (g := 3) (t := 238) (e := 237) (by kernel_rfl) (by kernel_rfl) (by kernel_rfl) ⟨_, _, _, Tryd.underlying237⟩ (by kernel_rfl) (by kernel_rfl) (by decide) (by kernel_rfl) h2) GR.nil)

/-- A world that meets the condition: the settled one, the tables laid. -/
noncomputable def laidWorld (os : Os) : World :=
  let w0 := World.holding Tryd.prog os ⟨#[], #[], []⟩
  { w0 with heap := (w0.heap.modify 2 fun
      | .cells _ t frozen => .cells #[.func (.func 33) #[] #[], .func (.func 68) #[] #[]] t frozen
      | o => o).modify 3 fun
      | .cells _ t frozen => .cells #[.func (.func 171) #[] #[], .func (.func 172) #[] #[], .func (.func 173) #[] #[]] t frozen
      | o => o }
theorem laidWorld_met (os : Os) (args : Array Value) : laidMetH Tryd.prog Rows.topHandoverRow.laid ((laidWorld os).forCall (fun _ _ => 0) ⟨#[], args, []⟩).memory :=
  laidMetH_of_parts3 (fuel := 8) (laidMet_nil _ _) (by kernel_rfl) (by kernel_rfl)

set_option maxRecDepth 100000 in
theorem law_lifted (hE : ∀ us, Ty.ins insH us → ∃ n h' p, eval Vi.Tryd.globs Vi.Tryd.prog n (.call 3 us H.start) = some (.ret (.bool true) h' p)) (os : Os) (started : os.Started) (H : Type) (enc : TypeId × Value → H) :
    ReturnsInHanded {} Tryd.checked os 3 .any (fun w args => (Rows.topHandoverSpec.pre enc Tryd.prog Tryd.f3 [] false w args ∧ laidMetH Tryd.prog Rows.topHandoverRow.laid w) ∧ sizedMet enc Tryd.prog Tryd.f3 (OpenSpec.ofChange Rows.topHandoverSpec) false w args)
      (Rows.topHandoverSpec.post enc Tryd.prog Tryd.f3 false true false false) := by
  refine returnsInHanded_of_change_and (C := Tryd.checked) (X := fun w _ => laidMetH Tryd.prog Rows.topHandoverRow.laid w) (fun _ _ _ hh h => h.of_heap hh) Tryd.own started (by kernel_rfl) Tryd.func3
    (ChangeSpec.witness_at (enc := enc) (C := Tryd.checked) (os := os) (X := fun w _ => laidMetH Tryd.prog Rows.topHandoverRow.laid w) false (laidWorld os) #[.agg #[.int .i64 0, .int .i64 0, .slice none 0 0], .int .i64 0] 8 rfl (by kernel_rfl) (by kernel_rfl) (by kernel_rfl) (by kernel_rfl) (by kernel_rfl) (laidWorld_met os _)) ?_
  intro W base args ds gs before hval0 hW _ _ hL _
  have hval : ∀ (j : Nat) t v, Tryd.f3.params[j]? = some t → args[j]? = some v → Value.okWide Tryd.prog W .any base t v := hval0
  have hA := hW
  obtain ⟨p, q, hA, hV, rfl, hfz, hnd⟩ := hA
  obtain ⟨us, h1, h2⟩ := open_args (ys := insH) (by kernel_rfl) hA (fun j t v ht hv => hval j t v (by simpa using ht) (by simpa using hv))
  obtain ⟨n, h', p', he⟩ := hE us h2
  refine law_of_eval (s := Rows.topHandoverSpec) Vi.Tryd.prog_ok Tryd.laidOut he (globs_laid hL) h1 hW rfl Tryd.underlying4 ?_ rfl ?_
  · intro t ht
    rw [Tryd.params3] at ht
    have : t = 24 ∨ t = 3 := by simpa using ht
    rcases this with rfl | rfl <;> exact ⟨by kernel_rfl, of_decide_eq_true (by kernel_rfl)⟩
  · obtain ⟨v0, vs, d0, ds1, p0, q0, e1, rfl, e3, h0, hA1⟩ := trodAll_cons (show DataW.TrodAll enc Tryd.prog W 0 (fun _ => true) true [24, 3] args.toList ds p from hA)
    obtain ⟨v1, vs2, d1, ds2, p1, q1, e4, rfl, e6, h3, hA2⟩ := trodAll_cons hA1
    obtain ⟨rfl, rfl, rfl⟩ := trodAll_nil hA2
    rfl

theorem said (hE : ∀ us, Ty.ins insH us → ∃ n h' p, eval Vi.Tryd.globs Vi.Tryd.prog n (.call 3 us H.start) = some (.ret (.bool true) h' p)) : Rows.TopHandoverSaid :=
  OpenClaim.holds_of_wide 3 Tryd.f3 rfl rfl rfl rfl rfl rfl rfl ⟨rfl, rfl, rfl, rfl, rfl⟩ rfl rfl rfl rfl rfl (by kernel_rfl) Tryd.func3 (by kernel_rfl)
    (of_decide_eq_true (by kernel_rfl)) (by unfold Func.isWrapper; rw [if_neg (of_decide_eq_false (by kernel_rfl))]; exact ⟨rfl, rfl⟩)
    (fun os started H enc _ => law_lifted hE os started H enc)

set_option maxRecDepth 100000 in
theorem card (hE : ∀ us, Ty.ins insH us → ∃ n h' p, eval Vi.Tryd.globs Vi.Tryd.prog n (.call 3 us H.start) = some (.ret (.bool true) h' p)) : Rows.TopHandoverCardSaid :=
  Claim7.holds_tied_plain_at .later [] [.funcs, .funcs] true (true, "60da5e2512d62db01dab16bb63c7eb3e159d47217e89c34d287c2dff9b3acf8b") false
    (said hE) (fun _ h => by cases h) (by kernel_rfl) (fun _ h => by cases h) topHandover_row_tie rfl ⟨rfl, rfl⟩ (by kernel_rfl) rfl
    (fun f fn hf hfn => by
      obtain rfl : f = 3 := Option.some.inj ((show Tryd.prog.funcNamed "remontoir/remontoirtop.TopHandover" = some 3 by kernel_rfl).symm.trans hf) |>.symm
      obtain rfl : fn = Tryd.f3 := (Option.some.inj (Tryd.func3.symm.trans hfn)).symm
      exact ⟨by kernel_rfl, fun j t ht => by
        have : t = 24 ∨ t = 3 := by
          rw [Tryd.params3] at ht
          rcases j with _ | _ | j
          · exact Or.inl (by simpa using ht.symm)
          · exact Or.inr (by simpa using ht.symm)
          · simp at ht
        rcases this with rfl | rfl <;> first | exact (show Tryd.prog.wantsStandIn 24 = false by kernel_rfl) | exact (show Tryd.prog.wantsStandIn 3 = false by kernel_rfl)⟩)
    (by kernel_rfl)
end Go.Proofs.YtngcbeckobfaaaaDoor
