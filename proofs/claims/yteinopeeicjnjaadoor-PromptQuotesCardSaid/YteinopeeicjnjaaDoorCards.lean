/-
  DERIVED. GIVEN WITH THE SEED: THE CARDS: each row of YteinopeeicjnjaaDoorRows.lean that lists a variable, with what it lists TIED to the program's text (the seventh form; the later family's looks); each row that meets fmt, with fmt's text TOLD by the authors' own Lean function (tested against real Go, not proved from fmt's source: count such statements apart). THE CARD IS WHAT COUNTS. Prove the row's statement (the work); the ties are given (YteinopeeicjnjaaDoorTie.lean); close each card by the builder's one call (the guide's Derived/Test/ToyasCard.lean, 'card_holds'). Laid BY PROGRAM, IN A SANDBOX (cutbox-door.mjs). By AI agents, Wed Nov 11 2026. No macro, syntax, notation, axiom, sorry.
-/
import Derived.Test.YteinopeeicjnjaaDoorRows
import GoSem.ClaimSeven
namespace Go.Proofs.YteinopeeicjnjaaDoor
namespace Rows

/-- THE TIED CARD OF 'jobshelllaw48.PromptExpands'. -/
def promptExpandsCard : Claim7 := { stood := { row := promptExpandsRow, standIns := [], harness := (true, "6b48662e5dc6b3e4aa893dec777ea98e2cd43473e035dc243ad2d60cd5144f59"), looks := false }, kinds := [], alts := [], laidByText := true, laidKinds := [.data, .data, .data], laidTests := true, laidLooks := .later }
def PromptExpandsCardSaid : Prop := Claim7.holds Tryd.pinned (.plain (OpenSpec.ofChange promptExpandsSpec)) promptExpandsCard

/-- THE TIED CARD OF 'jobshelllaw48.PromptFirsts'. -/
def promptFirstsCard : Claim7 := { stood := { row := promptFirstsRow, standIns := [], harness := (true, "6b48662e5dc6b3e4aa893dec777ea98e2cd43473e035dc243ad2d60cd5144f59"), looks := false }, kinds := [], alts := [], laidByText := true, laidKinds := [.data, .data, .data], laidTests := true, laidLooks := .later }
def PromptFirstsCardSaid : Prop := Claim7.holds Tryd.pinned (.plain (OpenSpec.ofChange promptFirstsSpec)) promptFirstsCard

/-- THE TIED CARD OF 'jobshelllaw48.PromptPlain'. -/
def promptPlainCard : Claim7 := { stood := { row := promptPlainRow, standIns := [], harness := (true, "6b48662e5dc6b3e4aa893dec777ea98e2cd43473e035dc243ad2d60cd5144f59"), looks := false }, kinds := [], alts := [], laidByText := true, laidKinds := [.data, .data, .data], laidTests := true, laidLooks := .later }
def PromptPlainCardSaid : Prop := Claim7.holds Tryd.pinned (.plain (OpenSpec.ofChange promptPlainSpec)) promptPlainCard

/-- THE TIED CARD OF 'jobshelllaw48.PromptParts'. -/
def promptPartsCard : Claim7 := { stood := { row := promptPartsRow, standIns := [], harness := (true, "6b48662e5dc6b3e4aa893dec777ea98e2cd43473e035dc243ad2d60cd5144f59"), looks := false }, kinds := [], alts := [], laidByText := true, laidKinds := [.data, .data, .data], laidTests := true, laidLooks := .later }
def PromptPartsCardSaid : Prop := Claim7.holds Tryd.pinned (.plain (OpenSpec.ofChange promptPartsSpec)) promptPartsCard

/-- THE TIED CARD OF 'jobshelllaw48.PromptQuotes'. -/
def promptQuotesCard : Claim7 := { stood := { row := promptQuotesRow, standIns := [], harness := (true, "6b48662e5dc6b3e4aa893dec777ea98e2cd43473e035dc243ad2d60cd5144f59"), looks := false }, kinds := [], alts := [], laidByText := true, laidKinds := [.data, .data, .data], laidTests := true, laidLooks := .later }
def PromptQuotesCardSaid : Prop := Claim7.holds Tryd.pinned (.plain (OpenSpec.ofChange promptQuotesSpec)) promptQuotesCard

/-- THE SECOND FORM's CARD OF 'jobshelllaw48.PromptExpands'. -/
def promptExpandsUptoCard : Claim7 := { stood := { row := promptExpandsUptoRow, standIns := [], harness := (true, "6b48662e5dc6b3e4aa893dec777ea98e2cd43473e035dc243ad2d60cd5144f59"), looks := false }, kinds := [], alts := [], laidByText := true, laidKinds := [.data, .data, .data], laidTests := true, laidLooks := .later }
def PromptExpandsUptoCardSaid : Prop := Claim7.holds Tryd.pinned (.plain (OpenSpec.upto promptExpandsSpec)) promptExpandsUptoCard

/-- THE SECOND FORM's CARD OF 'jobshelllaw48.PromptFirsts'. -/
def promptFirstsUptoCard : Claim7 := { stood := { row := promptFirstsUptoRow, standIns := [], harness := (true, "6b48662e5dc6b3e4aa893dec777ea98e2cd43473e035dc243ad2d60cd5144f59"), looks := false }, kinds := [], alts := [], laidByText := true, laidKinds := [.data, .data, .data], laidTests := true, laidLooks := .later }
def PromptFirstsUptoCardSaid : Prop := Claim7.holds Tryd.pinned (.plain (OpenSpec.upto promptFirstsSpec)) promptFirstsUptoCard

/-- THE SECOND FORM's CARD OF 'jobshelllaw48.PromptPlain'. -/
def promptPlainUptoCard : Claim7 := { stood := { row := promptPlainUptoRow, standIns := [], harness := (true, "6b48662e5dc6b3e4aa893dec777ea98e2cd43473e035dc243ad2d60cd5144f59"), looks := false }, kinds := [], alts := [], laidByText := true, laidKinds := [.data, .data, .data], laidTests := true, laidLooks := .later }
def PromptPlainUptoCardSaid : Prop := Claim7.holds Tryd.pinned (.plain (OpenSpec.upto promptPlainSpec)) promptPlainUptoCard

/-- THE SECOND FORM's CARD OF 'jobshelllaw48.PromptParts'. -/
def promptPartsUptoCard : Claim7 := { stood := { row := promptPartsUptoRow, standIns := [], harness := (true, "6b48662e5dc6b3e4aa893dec777ea98e2cd43473e035dc243ad2d60cd5144f59"), looks := false }, kinds := [], alts := [], laidByText := true, laidKinds := [.data, .data, .data], laidTests := true, laidLooks := .later }
def PromptPartsUptoCardSaid : Prop := Claim7.holds Tryd.pinned (.plain (OpenSpec.upto promptPartsSpec)) promptPartsUptoCard

/-- THE SECOND FORM's CARD OF 'jobshelllaw48.PromptQuotes'. -/
def promptQuotesUptoCard : Claim7 := { stood := { row := promptQuotesUptoRow, standIns := [], harness := (true, "6b48662e5dc6b3e4aa893dec777ea98e2cd43473e035dc243ad2d60cd5144f59"), looks := false }, kinds := [], alts := [], laidByText := true, laidKinds := [.data, .data, .data], laidTests := true, laidLooks := .later }
def PromptQuotesUptoCardSaid : Prop := Claim7.holds Tryd.pinned (.plain (OpenSpec.upto promptQuotesSpec)) promptQuotesUptoCard
end Rows
end Go.Proofs.YteinopeeicjnjaaDoor
