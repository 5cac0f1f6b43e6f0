/-
  DERIVED. GIVEN WITH THE SEED: THE CARDS: each row of YtngcbeckobfaaaaDoorRows.lean that lists a variable, with what it lists TIED to the program's text (the seventh form; the later family's looks); each row that meets fmt, with fmt's text TOLD by the authors' own Lean function (tested against real Go, not proved from fmt's source: count such statements apart). THE CARD IS WHAT COUNTS. Prove the row's statement (the work); the ties are given (YtngcbeckobfaaaaDoorTie.lean); close each card by the builder's one call (the guide's Derived/Test/ToyasCard.lean, 'card_holds'). Laid BY PROGRAM, IN A SANDBOX (cutbox-door.mjs). By AI agents, Wed Nov 11 2026. No macro, syntax, notation, axiom, sorry.
-/
import Derived.Test.YtngcbeckobfaaaaDoorRows
import GoSem.ClaimSeven
namespace Go.Proofs.YtngcbeckobfaaaaDoor
namespace Rows

/-- THE TIED CARD OF 'remontoirtop.TopHandover'. -/
def topHandoverCard : Claim7 := { stood := { row := topHandoverRow, standIns := [], harness := (true, "60da5e2512d62db01dab16bb63c7eb3e159d47217e89c34d287c2dff9b3acf8b"), looks := false }, kinds := [], alts := [], laidByText := true, laidKinds := [.funcs, .funcs], laidTests := true, laidLooks := .later }
def TopHandoverCardSaid : Prop := Claim7.holds Tryd.pinned (.plain (OpenSpec.ofChange topHandoverSpec)) topHandoverCard

/-- THE TIED CARD OF 'remontoirtop.TopDecreed'. -/
def topDecreedCard : Claim7 := { stood := { row := topDecreedRow, standIns := [], harness := (true, "60da5e2512d62db01dab16bb63c7eb3e159d47217e89c34d287c2dff9b3acf8b"), looks := false }, kinds := [], alts := [], laidByText := true, laidKinds := [.funcs, .funcs, .funcs, .funcs], laidTests := true, laidLooks := .later }
def TopDecreedCardSaid : Prop := Claim7.holds Tryd.pinned (.plain (OpenSpec.ofChange topDecreedSpec)) topDecreedCard

/-- THE TIED CARD OF 'remontoirtop.TopCaller'. -/
def topCallerCard : Claim7 := { stood := { row := topCallerRow, standIns := [], harness := (true, "60da5e2512d62db01dab16bb63c7eb3e159d47217e89c34d287c2dff9b3acf8b"), looks := false }, kinds := [], alts := [], laidByText := true, laidKinds := [.funcs, .funcs, .funcs, .funcs], laidTests := true, laidLooks := .later }
def TopCallerCardSaid : Prop := Claim7.holds Tryd.pinned (.plain (OpenSpec.ofChange topCallerSpec)) topCallerCard

/-- THE SECOND FORM's CARD OF 'remontoirtop.TopHandover'. -/
def topHandoverUptoCard : Claim7 := { stood := { row := topHandoverUptoRow, standIns := [], harness := (true, "60da5e2512d62db01dab16bb63c7eb3e159d47217e89c34d287c2dff9b3acf8b"), looks := false }, kinds := [], alts := [], laidByText := true, laidKinds := [.funcs, .funcs], laidTests := true, laidLooks := .later }
def TopHandoverUptoCardSaid : Prop := Claim7.holds Tryd.pinned (.plain (OpenSpec.upto topHandoverSpec)) topHandoverUptoCard

/-- THE SECOND FORM's CARD OF 'remontoirtop.TopDecreed'. -/
def topDecreedUptoCard : Claim7 := { stood := { row := topDecreedUptoRow, standIns := [], harness := (true, "60da5e2512d62db01dab16bb63c7eb3e159d47217e89c34d287c2dff9b3acf8b"), looks := false }, kinds := [], alts := [], laidByText := true, laidKinds := [.funcs, .funcs, .funcs, .funcs], laidTests := true, laidLooks := .later }
def TopDecreedUptoCardSaid : Prop := Claim7.holds Tryd.pinned (.plain (OpenSpec.upto topDecreedSpec)) topDecreedUptoCard

/-- THE SECOND FORM's CARD OF 'remontoirtop.TopCaller'. -/
def topCallerUptoCard : Claim7 := { stood := { row := topCallerUptoRow, standIns := [], harness := (true, "60da5e2512d62db01dab16bb63c7eb3e159d47217e89c34d287c2dff9b3acf8b"), looks := false }, kinds := [], alts := [], laidByText := true, laidKinds := [.funcs, .funcs, .funcs, .funcs], laidTests := true, laidLooks := .later }
def TopCallerUptoCardSaid : Prop := Claim7.holds Tryd.pinned (.plain (OpenSpec.upto topCallerSpec)) topCallerUptoCard
end Rows
end Go.Proofs.YtngcbeckobfaaaaDoor
