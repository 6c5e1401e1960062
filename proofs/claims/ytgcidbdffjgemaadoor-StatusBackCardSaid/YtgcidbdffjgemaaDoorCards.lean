/-
  DERIVED. GIVEN WITH THE SEED: THE CARDS: each row of YtgcidbdffjgemaaDoorRows.lean that lists a variable, with what it lists TIED to the program's text (the seventh form; the later family's looks); each row that meets fmt, with fmt's text TOLD by the authors' own Lean function (tested against real Go, not proved from fmt's source: count such statements apart). THE CARD IS WHAT COUNTS. Prove the row's statement (the work); the ties are given (YtgcidbdffjgemaaDoorTie.lean); close each card by the builder's one call (the guide's Derived/Test/ToyasCard.lean, 'card_holds'). Laid BY PROGRAM, IN A SANDBOX (cutbox-door.mjs). By AI agents, Wed Nov 11 2026. No macro, syntax, notation, axiom, sorry.
-/
import Derived.Test.YtgcidbdffjgemaaDoorRows
import GoSem.ClaimSeven
namespace Go.Proofs.YtgcidbdffjgemaaDoor
namespace Rows

/-- THE TIED CARD OF 'jobshelllaw22.StatusMakes'. -/
def statusMakesCard : Claim7 := { stood := { row := statusMakesRow, standIns := [], harness := (true, "255ed70fb3e93fe86f955e10afcb2ce0dc5847a7430e1b12d4c7e259edad1f30"), looks := false }, kinds := [], alts := [], laidByText := true, laidKinds := [.data, .data, .data, .data], laidTests := true, laidLooks := .later }
def StatusMakesCardSaid : Prop := Claim7.holds Tryd.pinned (.plain (OpenSpec.ofChange statusMakesSpec)) statusMakesCard

/-- THE TIED CARD OF 'jobshelllaw22.StatusTells'. -/
def statusTellsCard : Claim7 := { stood := { row := statusTellsRow, standIns := [], harness := (true, "255ed70fb3e93fe86f955e10afcb2ce0dc5847a7430e1b12d4c7e259edad1f30"), looks := false }, kinds := [], alts := [], laidByText := true, laidKinds := [.data, .data, .data, .data], laidTests := true, laidLooks := .later }
def StatusTellsCardSaid : Prop := Claim7.holds Tryd.pinned (.plain (OpenSpec.ofChange statusTellsSpec)) statusTellsCard

/-- THE TIED CARD OF 'jobshelllaw22.StatusBack'. -/
def statusBackCard : Claim7 := { stood := { row := statusBackRow, standIns := [], harness := (true, "255ed70fb3e93fe86f955e10afcb2ce0dc5847a7430e1b12d4c7e259edad1f30"), looks := false }, kinds := [], alts := [], laidByText := true, laidKinds := [.data, .data, .data, .data], laidTests := true, laidLooks := .later }
def StatusBackCardSaid : Prop := Claim7.holds Tryd.pinned (.plain (OpenSpec.ofChange statusBackSpec)) statusBackCard

/-- THE TIED CARD OF 'jobshelllaw22.StatusApart'. -/
def statusApartCard : Claim7 := { stood := { row := statusApartRow, standIns := [], harness := (true, "255ed70fb3e93fe86f955e10afcb2ce0dc5847a7430e1b12d4c7e259edad1f30"), looks := false }, kinds := [], alts := [], laidByText := true, laidKinds := [.data, .data, .data, .data], laidTests := true, laidLooks := .later }
def StatusApartCardSaid : Prop := Claim7.holds Tryd.pinned (.plain (OpenSpec.ofChange statusApartSpec)) statusApartCard

/-- THE TIED CARD OF 'jobshelllaw22.StatusEnds'. -/
def statusEndsCard : Claim7 := { stood := { row := statusEndsRow, standIns := [], harness := (true, "255ed70fb3e93fe86f955e10afcb2ce0dc5847a7430e1b12d4c7e259edad1f30"), looks := false }, kinds := [], alts := [], laidByText := true, laidKinds := [.data, .data, .data, .data], laidTests := true, laidLooks := .later }
def StatusEndsCardSaid : Prop := Claim7.holds Tryd.pinned (.plain (OpenSpec.ofChange statusEndsSpec)) statusEndsCard

/-- THE SECOND FORM's CARD OF 'jobshelllaw22.StatusMakes'. -/
def statusMakesUptoCard : Claim7 := { stood := { row := statusMakesUptoRow, standIns := [], harness := (true, "255ed70fb3e93fe86f955e10afcb2ce0dc5847a7430e1b12d4c7e259edad1f30"), looks := false }, kinds := [], alts := [], laidByText := true, laidKinds := [.data, .data, .data, .data], laidTests := true, laidLooks := .later }
def StatusMakesUptoCardSaid : Prop := Claim7.holds Tryd.pinned (.plain (OpenSpec.upto statusMakesSpec)) statusMakesUptoCard

/-- THE SECOND FORM's CARD OF 'jobshelllaw22.StatusTells'. -/
def statusTellsUptoCard : Claim7 := { stood := { row := statusTellsUptoRow, standIns := [], harness := (true, "255ed70fb3e93fe86f955e10afcb2ce0dc5847a7430e1b12d4c7e259edad1f30"), looks := false }, kinds := [], alts := [], laidByText := true, laidKinds := [.data, .data, .data, .data], laidTests := true, laidLooks := .later }
def StatusTellsUptoCardSaid : Prop := Claim7.holds Tryd.pinned (.plain (OpenSpec.upto statusTellsSpec)) statusTellsUptoCard

/-- THE SECOND FORM's CARD OF 'jobshelllaw22.StatusBack'. -/
def statusBackUptoCard : Claim7 := { stood := { row := statusBackUptoRow, standIns := [], harness := (true, "255ed70fb3e93fe86f955e10afcb2ce0dc5847a7430e1b12d4c7e259edad1f30"), looks := false }, kinds := [], alts := [], laidByText := true, laidKinds := [.data, .data, .data, .data], laidTests := true, laidLooks := .later }
def StatusBackUptoCardSaid : Prop := Claim7.holds Tryd.pinned (.plain (OpenSpec.upto statusBackSpec)) statusBackUptoCard

/-- THE SECOND FORM's CARD OF 'jobshelllaw22.StatusApart'. -/
def statusApartUptoCard : Claim7 := { stood := { row := statusApartUptoRow, standIns := [], harness := (true, "255ed70fb3e93fe86f955e10afcb2ce0dc5847a7430e1b12d4c7e259edad1f30"), looks := false }, kinds := [], alts := [], laidByText := true, laidKinds := [.data, .data, .data, .data], laidTests := true, laidLooks := .later }
def StatusApartUptoCardSaid : Prop := Claim7.holds Tryd.pinned (.plain (OpenSpec.upto statusApartSpec)) statusApartUptoCard

/-- THE SECOND FORM's CARD OF 'jobshelllaw22.StatusEnds'. -/
def statusEndsUptoCard : Claim7 := { stood := { row := statusEndsUptoRow, standIns := [], harness := (true, "255ed70fb3e93fe86f955e10afcb2ce0dc5847a7430e1b12d4c7e259edad1f30"), looks := false }, kinds := [], alts := [], laidByText := true, laidKinds := [.data, .data, .data, .data], laidTests := true, laidLooks := .later }
def StatusEndsUptoCardSaid : Prop := Claim7.holds Tryd.pinned (.plain (OpenSpec.upto statusEndsSpec)) statusEndsUptoCard
end Rows
end Go.Proofs.YtgcidbdffjgemaaDoor
