/-
  DERIVED. GIVEN WITH THE SEED: THE CARDS: each row of YtlkfejigeeddaaaDoorRows.lean that lists a variable, with what it lists TIED to the program's text (the seventh form; the later family's looks); each row that meets fmt, with fmt's text TOLD by the authors' own Lean function (tested against real Go, not proved from fmt's source: count such statements apart). THE CARD IS WHAT COUNTS. Prove the row's statement (the work); the ties are given (YtlkfejigeeddaaaDoorTie.lean); close each card by the builder's one call (the guide's Derived/Test/ToyasCard.lean, 'card_holds'). Laid BY PROGRAM, IN A SANDBOX (cutbox-door.mjs). By AI agents, Wed Nov 11 2026. No macro, syntax, notation, axiom, sorry.
-/
import Derived.Test.YtlkfejigeeddaaaDoorRows
import GoSem.ClaimSeven
namespace Go.Proofs.YtlkfejigeeddaaaDoor
namespace Rows

/-- THE TIED CARD OF 'jobshelllaw25.SignalNames'. -/
def signalNamesCard : Claim7 := { stood := { row := signalNamesRow, standIns := [], harness := (true, "a14a70379d657e43ce3674c6be982b26b371f26cab46e7211909c6b6db6df984"), looks := false }, kinds := [], alts := [], laidByText := true, laidKinds := [.data, .data, .data, .data], laidTests := true, laidLooks := .later }
def SignalNamesCardSaid : Prop := Claim7.holds Tryd.pinned (.plain (OpenSpec.ofChange signalNamesSpec)) signalNamesCard

/-- THE TIED CARD OF 'jobshelllaw25.SignalSends'. -/
def signalSendsCard : Claim7 := { stood := { row := signalSendsRow, standIns := [], harness := (true, "a14a70379d657e43ce3674c6be982b26b371f26cab46e7211909c6b6db6df984"), looks := false }, kinds := [], alts := [], laidByText := true, laidKinds := [.data, .data, .data, .data], laidTests := true, laidLooks := .later }
def SignalSendsCardSaid : Prop := Claim7.holds Tryd.pinned (.plain (OpenSpec.ofChange signalSendsSpec)) signalSendsCard

/-- THE TIED CARD OF 'jobshelllaw25.SignalTaken'. -/
def signalTakenCard : Claim7 := { stood := { row := signalTakenRow, standIns := [], harness := (true, "a14a70379d657e43ce3674c6be982b26b371f26cab46e7211909c6b6db6df984"), looks := false }, kinds := [], alts := [], laidByText := true, laidKinds := [.data, .data, .data, .data], laidTests := true, laidLooks := .later }
def SignalTakenCardSaid : Prop := Claim7.holds Tryd.pinned (.plain (OpenSpec.ofChange signalTakenSpec)) signalTakenCard

/-- THE TIED CARD OF 'jobshelllaw25.SignalIgnored'. -/
def signalIgnoredCard : Claim7 := { stood := { row := signalIgnoredRow, standIns := [], harness := (true, "a14a70379d657e43ce3674c6be982b26b371f26cab46e7211909c6b6db6df984"), looks := false }, kinds := [], alts := [], laidByText := true, laidKinds := [.data, .data, .data, .data], laidTests := true, laidLooks := .later }
def SignalIgnoredCardSaid : Prop := Claim7.holds Tryd.pinned (.plain (OpenSpec.ofChange signalIgnoredSpec)) signalIgnoredCard

/-- THE TIED CARD OF 'jobshelllaw25.SignalValid'. -/
def signalValidCard : Claim7 := { stood := { row := signalValidRow, standIns := [], harness := (true, "a14a70379d657e43ce3674c6be982b26b371f26cab46e7211909c6b6db6df984"), looks := false }, kinds := [], alts := [], laidByText := true, laidKinds := [.data, .data, .data, .data], laidTests := true, laidLooks := .later }
def SignalValidCardSaid : Prop := Claim7.holds Tryd.pinned (.plain (OpenSpec.ofChange signalValidSpec)) signalValidCard

/-- THE TIED CARD OF 'jobshelllaw25.SignalSets'. -/
def signalSetsCard : Claim7 := { stood := { row := signalSetsRow, standIns := [], harness := (true, "a14a70379d657e43ce3674c6be982b26b371f26cab46e7211909c6b6db6df984"), looks := false }, kinds := [], alts := [], laidByText := true, laidKinds := [.data, .data, .data, .data], laidTests := true, laidLooks := .later }
def SignalSetsCardSaid : Prop := Claim7.holds Tryd.pinned (.plain (OpenSpec.ofChange signalSetsSpec)) signalSetsCard

/-- THE TIED CARD OF 'jobshelllaw25.SignalStays'. -/
def signalStaysCard : Claim7 := { stood := { row := signalStaysRow, standIns := [], harness := (true, "a14a70379d657e43ce3674c6be982b26b371f26cab46e7211909c6b6db6df984"), looks := false }, kinds := [], alts := [], laidByText := true, laidKinds := [.data, .data, .data, .data], laidTests := true, laidLooks := .later }
def SignalStaysCardSaid : Prop := Claim7.holds Tryd.pinned (.plain (OpenSpec.ofChange signalStaysSpec)) signalStaysCard

/-- THE SECOND FORM's CARD OF 'jobshelllaw25.SignalNames'. -/
def signalNamesUptoCard : Claim7 := { stood := { row := signalNamesUptoRow, standIns := [], harness := (true, "a14a70379d657e43ce3674c6be982b26b371f26cab46e7211909c6b6db6df984"), looks := false }, kinds := [], alts := [], laidByText := true, laidKinds := [.data, .data, .data, .data], laidTests := true, laidLooks := .later }
def SignalNamesUptoCardSaid : Prop := Claim7.holds Tryd.pinned (.plain (OpenSpec.upto signalNamesSpec)) signalNamesUptoCard

/-- THE SECOND FORM's CARD OF 'jobshelllaw25.SignalSends'. -/
def signalSendsUptoCard : Claim7 := { stood := { row := signalSendsUptoRow, standIns := [], harness := (true, "a14a70379d657e43ce3674c6be982b26b371f26cab46e7211909c6b6db6df984"), looks := false }, kinds := [], alts := [], laidByText := true, laidKinds := [.data, .data, .data, .data], laidTests := true, laidLooks := .later }
def SignalSendsUptoCardSaid : Prop := Claim7.holds Tryd.pinned (.plain (OpenSpec.upto signalSendsSpec)) signalSendsUptoCard

/-- THE SECOND FORM's CARD OF 'jobshelllaw25.SignalTaken'. -/
def signalTakenUptoCard : Claim7 := { stood := { row := signalTakenUptoRow, standIns := [], harness := (true, "a14a70379d657e43ce3674c6be982b26b371f26cab46e7211909c6b6db6df984"), looks := false }, kinds := [], alts := [], laidByText := true, laidKinds := [.data, .data, .data, .data], laidTests := true, laidLooks := .later }
def SignalTakenUptoCardSaid : Prop := Claim7.holds Tryd.pinned (.plain (OpenSpec.upto signalTakenSpec)) signalTakenUptoCard

/-- THE SECOND FORM's CARD OF 'jobshelllaw25.SignalIgnored'. -/
def signalIgnoredUptoCard : Claim7 := { stood := { row := signalIgnoredUptoRow, standIns := [], harness := (true, "a14a70379d657e43ce3674c6be982b26b371f26cab46e7211909c6b6db6df984"), looks := false }, kinds := [], alts := [], laidByText := true, laidKinds := [.data, .data, .data, .data], laidTests := true, laidLooks := .later }
def SignalIgnoredUptoCardSaid : Prop := Claim7.holds Tryd.pinned (.plain (OpenSpec.upto signalIgnoredSpec)) signalIgnoredUptoCard

/-- THE SECOND FORM's CARD OF 'jobshelllaw25.SignalValid'. -/
def signalValidUptoCard : Claim7 := { stood := { row := signalValidUptoRow, standIns := [], harness := (true, "a14a70379d657e43ce3674c6be982b26b371f26cab46e7211909c6b6db6df984"), looks := false }, kinds := [], alts := [], laidByText := true, laidKinds := [.data, .data, .data, .data], laidTests := true, laidLooks := .later }
def SignalValidUptoCardSaid : Prop := Claim7.holds Tryd.pinned (.plain (OpenSpec.upto signalValidSpec)) signalValidUptoCard

/-- THE SECOND FORM's CARD OF 'jobshelllaw25.SignalSets'. -/
def signalSetsUptoCard : Claim7 := { stood := { row := signalSetsUptoRow, standIns := [], harness := (true, "a14a70379d657e43ce3674c6be982b26b371f26cab46e7211909c6b6db6df984"), looks := false }, kinds := [], alts := [], laidByText := true, laidKinds := [.data, .data, .data, .data], laidTests := true, laidLooks := .later }
def SignalSetsUptoCardSaid : Prop := Claim7.holds Tryd.pinned (.plain (OpenSpec.upto signalSetsSpec)) signalSetsUptoCard

/-- THE SECOND FORM's CARD OF 'jobshelllaw25.SignalStays'. -/
def signalStaysUptoCard : Claim7 := { stood := { row := signalStaysUptoRow, standIns := [], harness := (true, "a14a70379d657e43ce3674c6be982b26b371f26cab46e7211909c6b6db6df984"), looks := false }, kinds := [], alts := [], laidByText := true, laidKinds := [.data, .data, .data, .data], laidTests := true, laidLooks := .later }
def SignalStaysUptoCardSaid : Prop := Claim7.holds Tryd.pinned (.plain (OpenSpec.upto signalStaysSpec)) signalStaysUptoCard
end Rows
end Go.Proofs.YtlkfejigeeddaaaDoor
