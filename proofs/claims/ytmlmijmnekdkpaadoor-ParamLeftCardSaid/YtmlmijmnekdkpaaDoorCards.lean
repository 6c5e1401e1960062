/-
  DERIVED. GIVEN WITH THE SEED: THE CARDS: each row of YtmlmijmnekdkpaaDoorRows.lean that lists a variable, with what it lists TIED to the program's text (the seventh form; the later family's looks); each row that meets fmt, with fmt's text TOLD by the authors' own Lean function (tested against real Go, not proved from fmt's source: count such statements apart). THE CARD IS WHAT COUNTS. Prove the row's statement (the work); the ties are given (YtmlmijmnekdkpaaDoorTie.lean); close each card by the builder's one call (the guide's Derived/Test/ToyasCard.lean, 'card_holds'). Laid BY PROGRAM, IN A SANDBOX (cutbox-door.mjs). By AI agents, Wed Nov 11 2026. No macro, syntax, notation, axiom, sorry.
-/
import Derived.Test.YtmlmijmnekdkpaaDoorRows
import GoSem.ClaimSeven
namespace Go.Proofs.YtmlmijmnekdkpaaDoor
namespace Rows

/-- THE TIED CARD OF 'jobshelllaw17.ParamValues'. -/
def paramValuesCard : Claim7 := { stood := { row := paramValuesRow, standIns := [], harness := (true, "938b025c0917e96f3a95e97b566f2c3d43cbf96fe82d94234e0ecb6cd516634e"), looks := false }, kinds := [], alts := [], laidByText := true, laidKinds := [.data, .data, .data], laidTests := true, laidLooks := .later }
def ParamValuesCardSaid : Prop := Claim7.holds Tryd.pinned (.plain (OpenSpec.ofChange paramValuesSpec)) paramValuesCard

/-- THE TIED CARD OF 'jobshelllaw17.ParamChooses'. -/
def paramChoosesCard : Claim7 := { stood := { row := paramChoosesRow, standIns := [], harness := (true, "938b025c0917e96f3a95e97b566f2c3d43cbf96fe82d94234e0ecb6cd516634e"), looks := false }, kinds := [], alts := [], laidByText := true, laidKinds := [.data, .data, .data], laidTests := true, laidLooks := .later }
def ParamChoosesCardSaid : Prop := Claim7.holds Tryd.pinned (.plain (OpenSpec.ofChange paramChoosesSpec)) paramChoosesCard

/-- THE TIED CARD OF 'jobshelllaw17.ParamTrims'. -/
def paramTrimsCard : Claim7 := { stood := { row := paramTrimsRow, standIns := [], harness := (true, "938b025c0917e96f3a95e97b566f2c3d43cbf96fe82d94234e0ecb6cd516634e"), looks := false }, kinds := [], alts := [], laidByText := true, laidKinds := [.data, .data, .data], laidTests := true, laidLooks := .later }
def ParamTrimsCardSaid : Prop := Claim7.holds Tryd.pinned (.plain (OpenSpec.ofChange paramTrimsSpec)) paramTrimsCard

/-- THE TIED CARD OF 'jobshelllaw17.ParamUnset'. -/
def paramUnsetCard : Claim7 := { stood := { row := paramUnsetRow, standIns := [], harness := (true, "938b025c0917e96f3a95e97b566f2c3d43cbf96fe82d94234e0ecb6cd516634e"), looks := false }, kinds := [], alts := [], laidByText := true, laidKinds := [.data, .data, .data], laidTests := true, laidLooks := .later }
def ParamUnsetCardSaid : Prop := Claim7.holds Tryd.pinned (.plain (OpenSpec.ofChange paramUnsetSpec)) paramUnsetCard

/-- THE TIED CARD OF 'jobshelllaw17.ParamLeft'. -/
def paramLeftCard : Claim7 := { stood := { row := paramLeftRow, standIns := [], harness := (true, "938b025c0917e96f3a95e97b566f2c3d43cbf96fe82d94234e0ecb6cd516634e"), looks := false }, kinds := [], alts := [], laidByText := true, laidKinds := [.data, .data, .data], laidTests := true, laidLooks := .later }
def ParamLeftCardSaid : Prop := Claim7.holds Tryd.pinned (.plain (OpenSpec.ofChange paramLeftSpec)) paramLeftCard

/-- THE TIED CARD OF 'jobshelllaw17.ParamVariables'. -/
def paramVariablesCard : Claim7 := { stood := { row := paramVariablesRow, standIns := [], harness := (true, "938b025c0917e96f3a95e97b566f2c3d43cbf96fe82d94234e0ecb6cd516634e"), looks := false }, kinds := [], alts := [], laidByText := true, laidKinds := [.data, .data, .data], laidTests := true, laidLooks := .later }
def ParamVariablesCardSaid : Prop := Claim7.holds Tryd.pinned (.plain (OpenSpec.ofChange paramVariablesSpec)) paramVariablesCard

/-- THE SECOND FORM's CARD OF 'jobshelllaw17.ParamValues'. -/
def paramValuesUptoCard : Claim7 := { stood := { row := paramValuesUptoRow, standIns := [], harness := (true, "938b025c0917e96f3a95e97b566f2c3d43cbf96fe82d94234e0ecb6cd516634e"), looks := false }, kinds := [], alts := [], laidByText := true, laidKinds := [.data, .data, .data], laidTests := true, laidLooks := .later }
def ParamValuesUptoCardSaid : Prop := Claim7.holds Tryd.pinned (.plain (OpenSpec.upto paramValuesSpec)) paramValuesUptoCard

/-- THE SECOND FORM's CARD OF 'jobshelllaw17.ParamChooses'. -/
def paramChoosesUptoCard : Claim7 := { stood := { row := paramChoosesUptoRow, standIns := [], harness := (true, "938b025c0917e96f3a95e97b566f2c3d43cbf96fe82d94234e0ecb6cd516634e"), looks := false }, kinds := [], alts := [], laidByText := true, laidKinds := [.data, .data, .data], laidTests := true, laidLooks := .later }
def ParamChoosesUptoCardSaid : Prop := Claim7.holds Tryd.pinned (.plain (OpenSpec.upto paramChoosesSpec)) paramChoosesUptoCard

/-- THE SECOND FORM's CARD OF 'jobshelllaw17.ParamTrims'. -/
def paramTrimsUptoCard : Claim7 := { stood := { row := paramTrimsUptoRow, standIns := [], harness := (true, "938b025c0917e96f3a95e97b566f2c3d43cbf96fe82d94234e0ecb6cd516634e"), looks := false }, kinds := [], alts := [], laidByText := true, laidKinds := [.data, .data, .data], laidTests := true, laidLooks := .later }
def ParamTrimsUptoCardSaid : Prop := Claim7.holds Tryd.pinned (.plain (OpenSpec.upto paramTrimsSpec)) paramTrimsUptoCard

/-- THE SECOND FORM's CARD OF 'jobshelllaw17.ParamUnset'. -/
def paramUnsetUptoCard : Claim7 := { stood := { row := paramUnsetUptoRow, standIns := [], harness := (true, "938b025c0917e96f3a95e97b566f2c3d43cbf96fe82d94234e0ecb6cd516634e"), looks := false }, kinds := [], alts := [], laidByText := true, laidKinds := [.data, .data, .data], laidTests := true, laidLooks := .later }
def ParamUnsetUptoCardSaid : Prop := Claim7.holds Tryd.pinned (.plain (OpenSpec.upto paramUnsetSpec)) paramUnsetUptoCard

/-- THE SECOND FORM's CARD OF 'jobshelllaw17.ParamLeft'. -/
def paramLeftUptoCard : Claim7 := { stood := { row := paramLeftUptoRow, standIns := [], harness := (true, "938b025c0917e96f3a95e97b566f2c3d43cbf96fe82d94234e0ecb6cd516634e"), looks := false }, kinds := [], alts := [], laidByText := true, laidKinds := [.data, .data, .data], laidTests := true, laidLooks := .later }
def ParamLeftUptoCardSaid : Prop := Claim7.holds Tryd.pinned (.plain (OpenSpec.upto paramLeftSpec)) paramLeftUptoCard

/-- THE SECOND FORM's CARD OF 'jobshelllaw17.ParamVariables'. -/
def paramVariablesUptoCard : Claim7 := { stood := { row := paramVariablesUptoRow, standIns := [], harness := (true, "938b025c0917e96f3a95e97b566f2c3d43cbf96fe82d94234e0ecb6cd516634e"), looks := false }, kinds := [], alts := [], laidByText := true, laidKinds := [.data, .data, .data], laidTests := true, laidLooks := .later }
def ParamVariablesUptoCardSaid : Prop := Claim7.holds Tryd.pinned (.plain (OpenSpec.upto paramVariablesSpec)) paramVariablesUptoCard
end Rows
end Go.Proofs.YtmlmijmnekdkpaaDoor
