/-
  DERIVED. GIVEN WITH THE SEED: THE CARDS: each row of YtpphfbfmoipoaaaDoorRows.lean that lists a variable, with what it lists TIED to the program's text (the seventh form; the later family's looks); each row that meets fmt, with fmt's text TOLD by the authors' own Lean function (tested against real Go, not proved from fmt's source: count such statements apart). THE CARD IS WHAT COUNTS. Prove the row's statement (the work); the ties are given (YtpphfbfmoipoaaaDoorTie.lean); close each card by the builder's one call (the guide's Derived/Test/ToyasCard.lean, 'card_holds'). Laid BY PROGRAM, IN A SANDBOX (cutbox-door.mjs). By AI agents, Wed Nov 11 2026. No macro, syntax, notation, axiom, sorry.
-/
import Derived.Test.YtpphfbfmoipoaaaDoorRows
import GoSem.ClaimSeven
namespace Go.Proofs.YtpphfbfmoipoaaaDoor
namespace Rows

/-- THE TIED CARD OF 'jobshelllaw36.JobsAdds'. -/
def jobsAddsCard : Claim7 := { stood := { row := jobsAddsRow, standIns := [], harness := (true, "4efc83c5f7c56876daff528e77bd2885cf6337ea40520391bfe33da7df1f3671"), looks := false }, kinds := [], alts := [], laidByText := true, laidKinds := [.data, .data, .data, .data], laidTests := true, laidLooks := .later }
def JobsAddsCardSaid : Prop := Claim7.holds Tryd.pinned (.plain (OpenSpec.ofChange jobsAddsSpec)) jobsAddsCard

/-- THE TIED CARD OF 'jobshelllaw36.JobsLooks'. -/
def jobsLooksCard : Claim7 := { stood := { row := jobsLooksRow, standIns := [], harness := (true, "4efc83c5f7c56876daff528e77bd2885cf6337ea40520391bfe33da7df1f3671"), looks := false }, kinds := [], alts := [], laidByText := true, laidKinds := [.data, .data, .data, .data], laidTests := true, laidLooks := .later }
def JobsLooksCardSaid : Prop := Claim7.holds Tryd.pinned (.plain (OpenSpec.ofChange jobsLooksSpec)) jobsLooksCard

/-- THE TIED CARD OF 'jobshelllaw36.JobsNumbers'. -/
def jobsNumbersCard : Claim7 := { stood := { row := jobsNumbersRow, standIns := [], harness := (true, "4efc83c5f7c56876daff528e77bd2885cf6337ea40520391bfe33da7df1f3671"), looks := false }, kinds := [], alts := [], laidByText := true, laidKinds := [.data, .data, .data, .data], laidTests := true, laidLooks := .later }
def JobsNumbersCardSaid : Prop := Claim7.holds Tryd.pinned (.plain (OpenSpec.ofChange jobsNumbersSpec)) jobsNumbersCard

/-- THE TIED CARD OF 'jobshelllaw36.JobsUpdates'. -/
def jobsUpdatesCard : Claim7 := { stood := { row := jobsUpdatesRow, standIns := [], harness := (true, "4efc83c5f7c56876daff528e77bd2885cf6337ea40520391bfe33da7df1f3671"), looks := false }, kinds := [], alts := [], laidByText := true, laidKinds := [.data, .data, .data, .data], laidTests := true, laidLooks := .later }
def JobsUpdatesCardSaid : Prop := Claim7.holds Tryd.pinned (.plain (OpenSpec.ofChange jobsUpdatesSpec)) jobsUpdatesCard

/-- THE TIED CARD OF 'jobshelllaw36.JobsValid'. -/
def jobsValidCard : Claim7 := { stood := { row := jobsValidRow, standIns := [], harness := (true, "4efc83c5f7c56876daff528e77bd2885cf6337ea40520391bfe33da7df1f3671"), looks := false }, kinds := [], alts := [], laidByText := true, laidKinds := [.data, .data, .data, .data], laidTests := true, laidLooks := .later }
def JobsValidCardSaid : Prop := Claim7.holds Tryd.pinned (.plain (OpenSpec.ofChange jobsValidSpec)) jobsValidCard

/-- THE TIED CARD OF 'jobshelllaw36.JobsStay'. -/
def jobsStayCard : Claim7 := { stood := { row := jobsStayRow, standIns := [], harness := (true, "4efc83c5f7c56876daff528e77bd2885cf6337ea40520391bfe33da7df1f3671"), looks := false }, kinds := [], alts := [], laidByText := true, laidKinds := [.data, .data, .data, .data], laidTests := true, laidLooks := .later }
def JobsStayCardSaid : Prop := Claim7.holds Tryd.pinned (.plain (OpenSpec.ofChange jobsStaySpec)) jobsStayCard

/-- THE SECOND FORM's CARD OF 'jobshelllaw36.JobsAdds'. -/
def jobsAddsUptoCard : Claim7 := { stood := { row := jobsAddsUptoRow, standIns := [], harness := (true, "4efc83c5f7c56876daff528e77bd2885cf6337ea40520391bfe33da7df1f3671"), looks := false }, kinds := [], alts := [], laidByText := true, laidKinds := [.data, .data, .data, .data], laidTests := true, laidLooks := .later }
def JobsAddsUptoCardSaid : Prop := Claim7.holds Tryd.pinned (.plain (OpenSpec.upto jobsAddsSpec)) jobsAddsUptoCard

/-- THE SECOND FORM's CARD OF 'jobshelllaw36.JobsLooks'. -/
def jobsLooksUptoCard : Claim7 := { stood := { row := jobsLooksUptoRow, standIns := [], harness := (true, "4efc83c5f7c56876daff528e77bd2885cf6337ea40520391bfe33da7df1f3671"), looks := false }, kinds := [], alts := [], laidByText := true, laidKinds := [.data, .data, .data, .data], laidTests := true, laidLooks := .later }
def JobsLooksUptoCardSaid : Prop := Claim7.holds Tryd.pinned (.plain (OpenSpec.upto jobsLooksSpec)) jobsLooksUptoCard

/-- THE SECOND FORM's CARD OF 'jobshelllaw36.JobsNumbers'. -/
def jobsNumbersUptoCard : Claim7 := { stood := { row := jobsNumbersUptoRow, standIns := [], harness := (true, "4efc83c5f7c56876daff528e77bd2885cf6337ea40520391bfe33da7df1f3671"), looks := false }, kinds := [], alts := [], laidByText := true, laidKinds := [.data, .data, .data, .data], laidTests := true, laidLooks := .later }
def JobsNumbersUptoCardSaid : Prop := Claim7.holds Tryd.pinned (.plain (OpenSpec.upto jobsNumbersSpec)) jobsNumbersUptoCard

/-- THE SECOND FORM's CARD OF 'jobshelllaw36.JobsUpdates'. -/
def jobsUpdatesUptoCard : Claim7 := { stood := { row := jobsUpdatesUptoRow, standIns := [], harness := (true, "4efc83c5f7c56876daff528e77bd2885cf6337ea40520391bfe33da7df1f3671"), looks := false }, kinds := [], alts := [], laidByText := true, laidKinds := [.data, .data, .data, .data], laidTests := true, laidLooks := .later }
def JobsUpdatesUptoCardSaid : Prop := Claim7.holds Tryd.pinned (.plain (OpenSpec.upto jobsUpdatesSpec)) jobsUpdatesUptoCard

/-- THE SECOND FORM's CARD OF 'jobshelllaw36.JobsValid'. -/
def jobsValidUptoCard : Claim7 := { stood := { row := jobsValidUptoRow, standIns := [], harness := (true, "4efc83c5f7c56876daff528e77bd2885cf6337ea40520391bfe33da7df1f3671"), looks := false }, kinds := [], alts := [], laidByText := true, laidKinds := [.data, .data, .data, .data], laidTests := true, laidLooks := .later }
def JobsValidUptoCardSaid : Prop := Claim7.holds Tryd.pinned (.plain (OpenSpec.upto jobsValidSpec)) jobsValidUptoCard

/-- THE SECOND FORM's CARD OF 'jobshelllaw36.JobsStay'. -/
def jobsStayUptoCard : Claim7 := { stood := { row := jobsStayUptoRow, standIns := [], harness := (true, "4efc83c5f7c56876daff528e77bd2885cf6337ea40520391bfe33da7df1f3671"), looks := false }, kinds := [], alts := [], laidByText := true, laidKinds := [.data, .data, .data, .data], laidTests := true, laidLooks := .later }
def JobsStayUptoCardSaid : Prop := Claim7.holds Tryd.pinned (.plain (OpenSpec.upto jobsStaySpec)) jobsStayUptoCard
end Rows
end Go.Proofs.YtpphfbfmoipoaaaDoor
