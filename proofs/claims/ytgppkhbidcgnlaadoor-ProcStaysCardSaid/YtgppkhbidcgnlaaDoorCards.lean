/-
  DERIVED. GIVEN WITH THE SEED: THE CARDS: each row of YtgppkhbidcgnlaaDoorRows.lean that lists a variable, with what it lists TIED to the program's text (the seventh form; the later family's looks); each row that meets fmt, with fmt's text TOLD by the authors' own Lean function (tested against real Go, not proved from fmt's source: count such statements apart). THE CARD IS WHAT COUNTS. Prove the row's statement (the work); the ties are given (YtgppkhbidcgnlaaDoorTie.lean); close each card by the builder's one call (the guide's Derived/Test/ToyasCard.lean, 'card_holds'). Laid BY PROGRAM, IN A SANDBOX (cutbox-door.mjs). By AI agents, Wed Nov 11 2026. No macro, syntax, notation, axiom, sorry.
-/
import Derived.Test.YtgppkhbidcgnlaaDoorRows
import GoSem.ClaimSeven
namespace Go.Proofs.YtgppkhbidcgnlaaDoor
namespace Rows

/-- THE TIED CARD OF 'jobshelllaw27.ProcValid'. -/
def procValidCard : Claim7 := { stood := { row := procValidRow, standIns := [], harness := (true, "045e68ffb8b7d0fa777b77ffd35e90b02406e8b0c21dcd351a3d3ecf6805ec46"), looks := false }, kinds := [], alts := [], laidByText := true, laidKinds := [.data], laidTests := true, laidLooks := .later }
def ProcValidCardSaid : Prop := Claim7.holds Tryd.pinned (.plain (OpenSpec.ofChange procValidSpec)) procValidCard

/-- THE TIED CARD OF 'jobshelllaw27.ProcWaits'. -/
def procWaitsCard : Claim7 := { stood := { row := procWaitsRow, standIns := [], harness := (true, "045e68ffb8b7d0fa777b77ffd35e90b02406e8b0c21dcd351a3d3ecf6805ec46"), looks := false }, kinds := [], alts := [], laidByText := true, laidKinds := [.data], laidTests := true, laidLooks := .later }
def ProcWaitsCardSaid : Prop := Claim7.holds Tryd.pinned (.plain (OpenSpec.ofChange procWaitsSpec)) procWaitsCard

/-- THE TIED CARD OF 'jobshelllaw27.ProcGroups'. -/
def procGroupsCard : Claim7 := { stood := { row := procGroupsRow, standIns := [], harness := (true, "045e68ffb8b7d0fa777b77ffd35e90b02406e8b0c21dcd351a3d3ecf6805ec46"), looks := false }, kinds := [], alts := [], laidByText := true, laidKinds := [.data], laidTests := true, laidLooks := .later }
def ProcGroupsCardSaid : Prop := Claim7.holds Tryd.pinned (.plain (OpenSpec.ofChange procGroupsSpec)) procGroupsCard

/-- THE TIED CARD OF 'jobshelllaw27.ProcOnce'. -/
def procOnceCard : Claim7 := { stood := { row := procOnceRow, standIns := [], harness := (true, "045e68ffb8b7d0fa777b77ffd35e90b02406e8b0c21dcd351a3d3ecf6805ec46"), looks := false }, kinds := [], alts := [], laidByText := true, laidKinds := [.data], laidTests := true, laidLooks := .later }
def ProcOnceCardSaid : Prop := Claim7.holds Tryd.pinned (.plain (OpenSpec.ofChange procOnceSpec)) procOnceCard

/-- THE TIED CARD OF 'jobshelllaw27.ProcMeans'. -/
def procMeansCard : Claim7 := { stood := { row := procMeansRow, standIns := [], harness := (true, "045e68ffb8b7d0fa777b77ffd35e90b02406e8b0c21dcd351a3d3ecf6805ec46"), looks := false }, kinds := [], alts := [], laidByText := true, laidKinds := [.data], laidTests := true, laidLooks := .later }
def ProcMeansCardSaid : Prop := Claim7.holds Tryd.pinned (.plain (OpenSpec.ofChange procMeansSpec)) procMeansCard

/-- THE TIED CARD OF 'jobshelllaw27.ProcLives'. -/
def procLivesCard : Claim7 := { stood := { row := procLivesRow, standIns := [], harness := (true, "045e68ffb8b7d0fa777b77ffd35e90b02406e8b0c21dcd351a3d3ecf6805ec46"), looks := false }, kinds := [], alts := [], laidByText := true, laidKinds := [.data], laidTests := true, laidLooks := .later }
def ProcLivesCardSaid : Prop := Claim7.holds Tryd.pinned (.plain (OpenSpec.ofChange procLivesSpec)) procLivesCard

/-- THE TIED CARD OF 'jobshelllaw27.ProcStays'. -/
def procStaysCard : Claim7 := { stood := { row := procStaysRow, standIns := [], harness := (true, "045e68ffb8b7d0fa777b77ffd35e90b02406e8b0c21dcd351a3d3ecf6805ec46"), looks := false }, kinds := [], alts := [], laidByText := true, laidKinds := [.data], laidTests := true, laidLooks := .later }
def ProcStaysCardSaid : Prop := Claim7.holds Tryd.pinned (.plain (OpenSpec.ofChange procStaysSpec)) procStaysCard

/-- THE SECOND FORM's CARD OF 'jobshelllaw27.ProcValid'. -/
def procValidUptoCard : Claim7 := { stood := { row := procValidUptoRow, standIns := [], harness := (true, "045e68ffb8b7d0fa777b77ffd35e90b02406e8b0c21dcd351a3d3ecf6805ec46"), looks := false }, kinds := [], alts := [], laidByText := true, laidKinds := [.data], laidTests := true, laidLooks := .later }
def ProcValidUptoCardSaid : Prop := Claim7.holds Tryd.pinned (.plain (OpenSpec.upto procValidSpec)) procValidUptoCard

/-- THE SECOND FORM's CARD OF 'jobshelllaw27.ProcWaits'. -/
def procWaitsUptoCard : Claim7 := { stood := { row := procWaitsUptoRow, standIns := [], harness := (true, "045e68ffb8b7d0fa777b77ffd35e90b02406e8b0c21dcd351a3d3ecf6805ec46"), looks := false }, kinds := [], alts := [], laidByText := true, laidKinds := [.data], laidTests := true, laidLooks := .later }
def ProcWaitsUptoCardSaid : Prop := Claim7.holds Tryd.pinned (.plain (OpenSpec.upto procWaitsSpec)) procWaitsUptoCard

/-- THE SECOND FORM's CARD OF 'jobshelllaw27.ProcGroups'. -/
def procGroupsUptoCard : Claim7 := { stood := { row := procGroupsUptoRow, standIns := [], harness := (true, "045e68ffb8b7d0fa777b77ffd35e90b02406e8b0c21dcd351a3d3ecf6805ec46"), looks := false }, kinds := [], alts := [], laidByText := true, laidKinds := [.data], laidTests := true, laidLooks := .later }
def ProcGroupsUptoCardSaid : Prop := Claim7.holds Tryd.pinned (.plain (OpenSpec.upto procGroupsSpec)) procGroupsUptoCard

/-- THE SECOND FORM's CARD OF 'jobshelllaw27.ProcOnce'. -/
def procOnceUptoCard : Claim7 := { stood := { row := procOnceUptoRow, standIns := [], harness := (true, "045e68ffb8b7d0fa777b77ffd35e90b02406e8b0c21dcd351a3d3ecf6805ec46"), looks := false }, kinds := [], alts := [], laidByText := true, laidKinds := [.data], laidTests := true, laidLooks := .later }
def ProcOnceUptoCardSaid : Prop := Claim7.holds Tryd.pinned (.plain (OpenSpec.upto procOnceSpec)) procOnceUptoCard

/-- THE SECOND FORM's CARD OF 'jobshelllaw27.ProcMeans'. -/
def procMeansUptoCard : Claim7 := { stood := { row := procMeansUptoRow, standIns := [], harness := (true, "045e68ffb8b7d0fa777b77ffd35e90b02406e8b0c21dcd351a3d3ecf6805ec46"), looks := false }, kinds := [], alts := [], laidByText := true, laidKinds := [.data], laidTests := true, laidLooks := .later }
def ProcMeansUptoCardSaid : Prop := Claim7.holds Tryd.pinned (.plain (OpenSpec.upto procMeansSpec)) procMeansUptoCard

/-- THE SECOND FORM's CARD OF 'jobshelllaw27.ProcLives'. -/
def procLivesUptoCard : Claim7 := { stood := { row := procLivesUptoRow, standIns := [], harness := (true, "045e68ffb8b7d0fa777b77ffd35e90b02406e8b0c21dcd351a3d3ecf6805ec46"), looks := false }, kinds := [], alts := [], laidByText := true, laidKinds := [.data], laidTests := true, laidLooks := .later }
def ProcLivesUptoCardSaid : Prop := Claim7.holds Tryd.pinned (.plain (OpenSpec.upto procLivesSpec)) procLivesUptoCard

/-- THE SECOND FORM's CARD OF 'jobshelllaw27.ProcStays'. -/
def procStaysUptoCard : Claim7 := { stood := { row := procStaysUptoRow, standIns := [], harness := (true, "045e68ffb8b7d0fa777b77ffd35e90b02406e8b0c21dcd351a3d3ecf6805ec46"), looks := false }, kinds := [], alts := [], laidByText := true, laidKinds := [.data], laidTests := true, laidLooks := .later }
def ProcStaysUptoCardSaid : Prop := Claim7.holds Tryd.pinned (.plain (OpenSpec.upto procStaysSpec)) procStaysUptoCard
end Rows
end Go.Proofs.YtgppkhbidcgnlaaDoor
