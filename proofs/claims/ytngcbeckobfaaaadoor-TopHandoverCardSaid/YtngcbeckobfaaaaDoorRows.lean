/-
  NARROWER THAN 'FOR EVERY INPUT', by the rows' own cells (each row's printed sentence says how): TopHandover: laid · TopDecreed: laid · TopCaller: laid.
  DERIVED. THE GIVEN ROWS OF THIS SEAT. 3 by the template 'for every input the law returns true; each argument reads behind the call as it read before'; 0 by the template 'total and deterministic' (their statements: YtngcbeckobfaaaaDoorTotals.lean).
  GIVEN WITH THE SEED: the statements are not yours to turn. If you find one false, say at which input.
  Laid BY PROGRAM, IN A SANDBOX (cutbox-rows.mjs): the forced cells as the released guide's own fill.sh prints them over the translation ba9e897618a73502… (all of the seat's roots in one cut). By AI agents, Wed Nov 11 2026. No macro, syntax, notation, axiom, sorry.
-/
import Derived.Test.YtngcbeckobfaaaaDoorChecked
import GoSem.Claim
import GoSem.ClaimJoined
import GoSem.ClaimMapViews
import Derived.JoinedTies
import Derived.KernelRfl
namespace Go.Proofs.YtngcbeckobfaaaaDoor
/- THE CELL 'sum', in the pinned program and in every row, IS THE sha256 OF THE DUMP (.gsa) THAT YtngcbeckobfaaaaDoorProg.lean LOADS. Nothing in Lean hashes anything: it is a label: what it is worth is what the hold of that sum in a sandbox is worth. -/
noncomputable def Tryd.pinned : Pinned := { name := "ytngcbeckobfaaaadoor", sum := "ba9e897618a73502551ce81a9ace909ad967e8bea4648e9f7feefe8d493b8afc", checked := Tryd.checked }
namespace Rows
def none {H : Type} : Left H := { results := [], args := [] }

/- WHAT THE LISTED PACKAGE-LEVEL VARIABLES READ AS WHEN THE CALL BEGINS. Each datum BY PROGRAM (the guide's laid-datum.mjs) off the statement by which the dump's own 'gosem.cut.vars' lays the variable. In a bare row this is a premise. The card (YtngcbeckobfaaaaDoorCards.lean) ties it to the program's text. -/
def laid_remontoir_beat_kinds {H : Type} : DataW H := .iface "func table" (.agg [.iface "func" (.lit (.string [40, 114, 101, 109, 111, 110, 116, 111, 105, 114, 47, 98, 101, 97, 116, 46, 99, 101, 108, 108, 97, 114, 41, 46, 103, 114, 111, 119, 115])), .iface "func" (.lit (.string [40, 114, 101, 109, 111, 110, 116, 111, 105, 114, 47, 98, 101, 97, 116, 46, 99, 101, 108, 108, 97, 114, 41, 46, 114, 101, 97, 100, 115])), .iface "func" (.lit (.string [40, 114, 101, 109, 111, 110, 116, 111, 105, 114, 47, 98, 101, 97, 116, 46, 99, 101, 108, 108, 97, 114, 41, 46, 104, 111, 108, 100, 115]))])
def laid_remontoir_spare_lasts {H : Type} : DataW H := .iface "func table" (.agg [.iface "func" (.lit (.string [40, 114, 101, 109, 111, 110, 116, 111, 105, 114, 47, 115, 112, 97, 114, 101, 46, 109, 97, 99, 104, 105, 110, 101, 41, 46, 115, 116, 105, 110, 116])), .iface "func" (.lit (.string [40, 114, 101, 109, 111, 110, 116, 111, 105, 114, 47, 115, 112, 97, 114, 101, 46, 109, 97, 99, 104, 105, 110, 101, 41, 46, 108, 97, 115, 116]))])
def laid_remontoir_dial_parts {H : Type} : DataW H := .iface "func table" (.agg [.iface "func" (.lit (.string [40, 114, 101, 109, 111, 110, 116, 111, 105, 114, 47, 100, 105, 97, 108, 46, 99, 97, 108, 101, 110, 100, 97, 114, 41, 46, 104, 111, 117, 114])), .iface "func" (.lit (.string [40, 114, 101, 109, 111, 110, 116, 111, 105, 114, 47, 100, 105, 97, 108, 46, 99, 97, 108, 101, 110, 100, 97, 114, 41, 46, 109, 105, 110, 117, 116, 101]))])
def laid_remontoir_scale_ways {H : Type} : DataW H := .iface "func table" (.agg [.iface "func" (.lit (.string [40, 114, 101, 109, 111, 110, 116, 111, 105, 114, 47, 115, 99, 97, 108, 101, 46, 114, 117, 108, 101, 41, 46, 103, 97, 105, 110])), .iface "func" (.lit (.string [40, 114, 101, 109, 111, 110, 116, 111, 105, 114, 47, 115, 99, 97, 108, 101, 46, 114, 117, 108, 101, 41, 46, 108, 111, 115, 101]))])
def laid_remontoir_star_kinds {H : Type} : DataW H := .iface "func table" (.agg [.iface "func" (.lit (.string [40, 114, 101, 109, 111, 110, 116, 111, 105, 114, 47, 115, 116, 97, 114, 46, 98, 111, 111, 107, 41, 46, 115, 101, 101, 110])), .iface "func" (.lit (.string [40, 114, 101, 109, 111, 110, 116, 111, 105, 114, 47, 115, 116, 97, 114, 46, 98, 111, 111, 107, 41, 46, 115, 105, 103, 110, 97, 108]))])
def laid_remontoir_voice_parts {H : Type} : DataW H := .iface "func table" (.agg [.iface "func" (.lit (.string [40, 114, 101, 109, 111, 110, 116, 111, 105, 114, 47, 118, 111, 105, 99, 101, 46, 114, 101, 97, 100, 105, 110, 103, 41, 46, 104, 111, 117, 114])), .iface "func" (.lit (.string [40, 114, 101, 109, 111, 110, 116, 111, 105, 114, 47, 118, 111, 105, 99, 101, 46, 114, 101, 97, 100, 105, 110, 103, 41, 46, 109, 105, 110, 117, 116, 101])), .iface "func" (.lit (.string [40, 114, 101, 109, 111, 110, 116, 111, 105, 114, 47, 118, 111, 105, 99, 101, 46, 114, 101, 97, 100, 105, 110, 103, 41, 46, 115, 101, 99, 111, 110, 100]))])

/-- 'remontoirtop.TopHandover': WHATEVER THE INPUT: true; the input reads as it did. -/
def topHandoverSpec : ChangeSpec := { name := "topHandover", fn := fun _ => fun
  | [d1, d2] => { results := [.lit (.bool true)], args := [d1, d2] }
  | _ => none }
def topHandoverRow : OpenClaim := { program := "ytngcbeckobfaaaadoor", sum := "ba9e897618a73502551ce81a9ace909ad967e8bea4648e9f7feefe8d493b8afc", func := "remontoir/remontoirtop.TopHandover", spec := "topHandover", unfollowed := true, recurses := true, named := ["remontoir/spare.lasts", "remontoir/beat.kinds"], plainKeys := false, apart := false, laid := [("remontoir/beat.kinds", laid_remontoir_beat_kinds), ("remontoir/spare.lasts", laid_remontoir_spare_lasts)] }
def TopHandoverSaid : Prop := topHandoverRow.holds Tryd.pinned (OpenSpec.ofChange topHandoverSpec)

/-- ITS FALSE NEIGHBOUR: 'it returns false'. Refute it at one input. -/
def topHandoverWrong : ChangeSpec := { name := "topHandover", fn := fun _ => fun
  | [d1, d2] => { results := [.lit (.bool false)], args := [d1, d2] }
  | _ => none }
def TopHandoverWrongFalsely : Prop := topHandoverRow.holds Tryd.pinned (OpenSpec.ofChange topHandoverWrong)

/-- 'remontoirtop.TopDecreed': WHATEVER THE INPUT: true; the input reads as it did. -/
def topDecreedSpec : ChangeSpec := { name := "topDecreed", fn := fun _ => fun
  | [d1, d2, d3] => { results := [.lit (.bool true)], args := [d1, d2, d3] }
  | _ => none }
def topDecreedRow : OpenClaim := { program := "ytngcbeckobfaaaadoor", sum := "ba9e897618a73502551ce81a9ace909ad967e8bea4648e9f7feefe8d493b8afc", func := "remontoir/remontoirtop.TopDecreed", spec := "topDecreed", unfollowed := true, recurses := true, named := ["remontoir/dial.parts", "remontoir/star.kinds", "remontoir/scale.ways", "remontoir/voice.parts"], plainKeys := false, apart := false, laid := [("remontoir/dial.parts", laid_remontoir_dial_parts), ("remontoir/scale.ways", laid_remontoir_scale_ways), ("remontoir/star.kinds", laid_remontoir_star_kinds), ("remontoir/voice.parts", laid_remontoir_voice_parts)] }
def TopDecreedSaid : Prop := topDecreedRow.holds Tryd.pinned (OpenSpec.ofChange topDecreedSpec)

/-- ITS FALSE NEIGHBOUR: 'it returns false'. Refute it at one input. -/
def topDecreedWrong : ChangeSpec := { name := "topDecreed", fn := fun _ => fun
  | [d1, d2, d3] => { results := [.lit (.bool false)], args := [d1, d2, d3] }
  | _ => none }
def TopDecreedWrongFalsely : Prop := topDecreedRow.holds Tryd.pinned (OpenSpec.ofChange topDecreedWrong)

/-- 'remontoirtop.TopCaller': WHATEVER THE INPUT: true; the input reads as it did. -/
def topCallerSpec : ChangeSpec := { name := "topCaller", fn := fun _ => fun
  | [d1, d2, d3, d4] => { results := [.lit (.bool true)], args := [d1, d2, d3, d4] }
  | _ => none }
def topCallerRow : OpenClaim := { program := "ytngcbeckobfaaaadoor", sum := "ba9e897618a73502551ce81a9ace909ad967e8bea4648e9f7feefe8d493b8afc", func := "remontoir/remontoirtop.TopCaller", spec := "topCaller", unfollowed := true, recurses := true, named := ["remontoir/spare.lasts", "remontoir/beat.kinds", "remontoir/dial.parts", "remontoir/voice.parts"], plainKeys := false, apart := false, laid := [("remontoir/beat.kinds", laid_remontoir_beat_kinds), ("remontoir/dial.parts", laid_remontoir_dial_parts), ("remontoir/spare.lasts", laid_remontoir_spare_lasts), ("remontoir/voice.parts", laid_remontoir_voice_parts)] }
def TopCallerSaid : Prop := topCallerRow.holds Tryd.pinned (OpenSpec.ofChange topCallerSpec)

/-- ITS FALSE NEIGHBOUR: 'it returns false'. Refute it at one input. -/
def topCallerWrong : ChangeSpec := { name := "topCaller", fn := fun _ => fun
  | [d1, d2, d3, d4] => { results := [.lit (.bool false)], args := [d1, d2, d3, d4] }
  | _ => none }
def TopCallerWrongFalsely : Prop := topCallerRow.holds Tryd.pinned (OpenSpec.ofChange topCallerWrong)

/- THE SECOND FORM. 'bulk': how many values and letters a reading holds, each counted each time it is reached (what is shared counts as often as it is met; a slice's spare places count too). A statement '..UptoSaid' is the law's where the arguments, and the package variables that the reading takes, are together of bulk at most 1048576: NARROWER than '..Said'. Prove '..Said' where nothing that the law and all that it calls make is longer than what came in: it says more and counts as full. Else prove '..UptoSaid'. A law counts once. -/
mutual
def uptoBulk {H : Type} : DataW H → Nat
  | .lit (.string bytes) => bytes.length + 1
  | .lit _ => 1
  | .nil => 1
  | .ptr d => uptoBulk d + 1
  | .slice elems spare => uptoBulkAll elems + uptoBulkAll spare + 1
  | .agg parts => uptoBulkAll parts + 1
  | .iface _ d => uptoBulk d + 1
  | .map entries => uptoBulkEntries entries + 1
  | .held _ => 1
def uptoBulkAll {H : Type} : List (DataW H) → Nat
  | [] => 0
  | d :: r => uptoBulk d + uptoBulkAll r
def uptoBulkEntries {H : Type} : List (Lit × DataW H) → Nat
  | [] => 0
  | x :: r => uptoBulkEntry x + uptoBulkEntries r
def uptoBulkEntry {H : Type} : Lit × DataW H → Nat
  | (.string bytes, d) => bytes.length + uptoBulk d + 1
  | (_, d) => uptoBulk d + 1
 end
def uptoSmall : (H : Type) → List (DataW H) → Bool := fun _ ds => decide (uptoBulkAll ds ≤ 1048576)
def OpenSpec.upto (s : _root_.Go.ChangeSpec) : _root_.Go.OpenSpec := { _root_.Go.OpenSpec.ofChange s with cond := some uptoSmall }

/-- 'remontoirtop.TopHandover', WHERE WHAT IT READS IS OF BULK AT MOST 1048576: true; the input reads as it did. -/
def topHandoverUptoRow : OpenClaim := { program := "ytngcbeckobfaaaadoor", sum := "ba9e897618a73502551ce81a9ace909ad967e8bea4648e9f7feefe8d493b8afc", func := "remontoir/remontoirtop.TopHandover", spec := "topHandover", unfollowed := true, recurses := true, named := ["remontoir/spare.lasts", "remontoir/beat.kinds"], plainKeys := false, apart := false, laid := [("remontoir/beat.kinds", laid_remontoir_beat_kinds), ("remontoir/spare.lasts", laid_remontoir_spare_lasts)], narrowed := true }
def TopHandoverUptoSaid : Prop := topHandoverUptoRow.holds Tryd.pinned (OpenSpec.upto topHandoverSpec)

/-- 'remontoirtop.TopDecreed', WHERE WHAT IT READS IS OF BULK AT MOST 1048576: true; the input reads as it did. -/
def topDecreedUptoRow : OpenClaim := { program := "ytngcbeckobfaaaadoor", sum := "ba9e897618a73502551ce81a9ace909ad967e8bea4648e9f7feefe8d493b8afc", func := "remontoir/remontoirtop.TopDecreed", spec := "topDecreed", unfollowed := true, recurses := true, named := ["remontoir/dial.parts", "remontoir/star.kinds", "remontoir/scale.ways", "remontoir/voice.parts"], plainKeys := false, apart := false, laid := [("remontoir/dial.parts", laid_remontoir_dial_parts), ("remontoir/scale.ways", laid_remontoir_scale_ways), ("remontoir/star.kinds", laid_remontoir_star_kinds), ("remontoir/voice.parts", laid_remontoir_voice_parts)], narrowed := true }
def TopDecreedUptoSaid : Prop := topDecreedUptoRow.holds Tryd.pinned (OpenSpec.upto topDecreedSpec)

/-- 'remontoirtop.TopCaller', WHERE WHAT IT READS IS OF BULK AT MOST 1048576: true; the input reads as it did. -/
def topCallerUptoRow : OpenClaim := { program := "ytngcbeckobfaaaadoor", sum := "ba9e897618a73502551ce81a9ace909ad967e8bea4648e9f7feefe8d493b8afc", func := "remontoir/remontoirtop.TopCaller", spec := "topCaller", unfollowed := true, recurses := true, named := ["remontoir/spare.lasts", "remontoir/beat.kinds", "remontoir/dial.parts", "remontoir/voice.parts"], plainKeys := false, apart := false, laid := [("remontoir/beat.kinds", laid_remontoir_beat_kinds), ("remontoir/dial.parts", laid_remontoir_dial_parts), ("remontoir/spare.lasts", laid_remontoir_spare_lasts), ("remontoir/voice.parts", laid_remontoir_voice_parts)], narrowed := true }
def TopCallerUptoSaid : Prop := topCallerUptoRow.holds Tryd.pinned (OpenSpec.upto topCallerSpec)

end Rows
end Go.Proofs.YtngcbeckobfaaaaDoor
