/- The closed examples that each law also asks for: by the kernel, whatever else lies in memory. No statement of a claim stands here. -/
import Derived.Test.YtngcbeckobfaaaaDoorVw
import Derived.Test.YtngcbeckobfaaaaDoorVc
import Derived.KernelRfl
set_option linter.unusedSimpArgs false
set_option linter.unusedVariables false
namespace Go.Vi.Tryd
open Go Go.Vi
theorem ring1 : (fun objs : List (Nat × HObj) => eval globs prog 4000 (.call 8 [] ⟨1, 0, objs⟩)) = fun objs => some (.ret (.bool true) ⟨1, 0, objs⟩ true) := by kernel_rfl
theorem ring5 : (fun objs : List (Nat × HObj) => eval globs prog 4000 (.call 8 [] ⟨5, 0, objs⟩)) = fun objs => some (.ret (.bool true) ⟨5, 0, objs⟩ true) := by kernel_rfl
theorem ring8 : (fun objs : List (Nat × HObj) => eval globs prog 4000 (.call 8 [] ⟨8, 0, objs⟩)) = fun objs => some (.ret (.bool true) ⟨8, 0, objs⟩ true) := by kernel_rfl
/-- the examples, at the three places where they are asked for -/
theorem ring_run {h : H} (hn : h.next = 1 ∨ h.next = 5 ∨ h.next = 8) (hl : h.low = 0) : WC globs prog 8 [] h fun v h' p => v = .bool true ∧ h' = h ∧ p = true := by
  obtain ⟨n, l, objs⟩ := h
  simp only at hn hl
  subst hl
  rcases hn with rfl | rfl | rfl
  · exact ⟨_, _, _, ⟨4000, congrFun ring1 objs⟩, rfl, rfl, rfl⟩
  · exact ⟨_, _, _, ⟨4000, congrFun ring5 objs⟩, rfl, rfl, rfl⟩
  · exact ⟨_, _, _, ⟨4000, congrFun ring8 objs⟩, rfl, rfl, rfl⟩
end Go.Vi.Tryd
