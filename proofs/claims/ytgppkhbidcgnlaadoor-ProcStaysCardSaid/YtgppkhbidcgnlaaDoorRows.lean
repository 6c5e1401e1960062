/-
  NARROWER THAN 'FOR EVERY INPUT', by the rows' own cells (each row's printed sentence says how): ProcValid: laid · ProcWaits: laid · ProcGroups: laid · ProcOnce: laid · ProcMeans: laid · ProcLives: laid · ProcStays: laid.
  DERIVED. THE GIVEN ROWS OF THIS SEAT. 7 by the template 'for every input the law returns true; each argument reads behind the call as it read before'; 0 by the template 'total and deterministic' (their statements: YtgppkhbidcgnlaaDoorTotals.lean).
  GIVEN WITH THE SEED: the statements are not yours to turn. If you find one false, say at which input.
  Laid BY PROGRAM, IN A SANDBOX (cutbox-rows.mjs): the forced cells as the released guide's own fill.sh prints them over the translation d2740970f9627e7a… (all of the seat's roots in one cut). By AI agents, Wed Nov 11 2026. No macro, syntax, notation, axiom, sorry.
-/
import Derived.Test.YtgppkhbidcgnlaaDoorChecked
import GoSem.Claim
import GoSem.ClaimJoined
import GoSem.ClaimMapViews
import Derived.JoinedTies
import Derived.KernelRfl
namespace Go.Proofs.YtgppkhbidcgnlaaDoor
/- THE CELL 'sum', in the pinned program and in every row, IS THE sha256 OF THE DUMP (.gsa) THAT YtgppkhbidcgnlaaDoorProg.lean LOADS. Nothing in Lean hashes anything: it is a label: what it is worth is what the hold of that sum in a sandbox is worth. -/
noncomputable def Tryd.pinned : Pinned := { name := "ytgppkhbidcgnlaadoor", sum := "d2740970f9627e7aa8760947ae1c99f59ff871326321355540c5eb9cf2317392", checked := Tryd.checked }
namespace Rows
def none {H : Type} : Left H := { results := [], args := [] }

/- WHAT THE LISTED PACKAGE-LEVEL VARIABLES READ AS WHEN THE CALL BEGINS. Each datum BY PROGRAM (the guide's laid-datum.mjs) off the statement by which the dump's own 'gosem.cut.vars' lays the variable. In a bare row this is a premise. The card (YtgppkhbidcgnlaaDoorCards.lean) ties it to the program's text. -/
def laid_jobshell_signal_names {H : Type} : DataW H := .agg [.lit (.string []), .lit (.string [72, 85, 80]), .lit (.string [73, 78, 84]), .lit (.string [81, 85, 73, 84]), .lit (.string [84, 84, 73, 78]), .lit (.string [84, 84, 79, 85]), .lit (.string []), .lit (.string []), .lit (.string []), .lit (.string [75, 73, 76, 76]), .lit (.string [85, 83, 82, 49]), .lit (.string []), .lit (.string [85, 83, 82, 50]), .lit (.string [80, 73, 80, 69]), .lit (.string [65, 76, 82, 77]), .lit (.string [84, 69, 82, 77]), .lit (.string []), .lit (.string [67, 72, 76, 68]), .lit (.string [67, 79, 78, 84]), .lit (.string [83, 84, 79, 80]), .lit (.string [84, 83, 84, 80])]

/-- 'jobshelllaw27.ProcValid': WHATEVER THE INPUT: true; the input reads as it did. -/
def procValidSpec : ChangeSpec := { name := "procValid", fn := fun _ => fun
  | [d1, d2, d3] => { results := [.lit (.bool true)], args := [d1, d2, d3] }
  | _ => none }
def procValidRow : OpenClaim := { program := "ytgppkhbidcgnlaadoor", sum := "d2740970f9627e7aa8760947ae1c99f59ff871326321355540c5eb9cf2317392", func := "jobshell/jobshelllaw27.ProcValid", spec := "procValid", inPlace := ["slices.overlaps[jobshell/api.Proc]"], unfollowed := true, recurses := true, named := ["jobshell/signal.names"], apart := false, laid := [("jobshell/signal.names", laid_jobshell_signal_names)] }
def ProcValidSaid : Prop := procValidRow.holds Tryd.pinned (OpenSpec.ofChange procValidSpec)

/-- ITS FALSE NEIGHBOUR: 'it returns false'. Refute it at one input. -/
def procValidWrong : ChangeSpec := { name := "procValid", fn := fun _ => fun
  | [d1, d2, d3] => { results := [.lit (.bool false)], args := [d1, d2, d3] }
  | _ => none }
def ProcValidWrongFalsely : Prop := procValidRow.holds Tryd.pinned (OpenSpec.ofChange procValidWrong)

/-- 'jobshelllaw27.ProcWaits': WHATEVER THE INPUT: true; the input reads as it did. -/
def procWaitsSpec : ChangeSpec := { name := "procWaits", fn := fun _ => fun
  | [d1, d2, d3, d4] => { results := [.lit (.bool true)], args := [d1, d2, d3, d4] }
  | _ => none }
def procWaitsRow : OpenClaim := { program := "ytgppkhbidcgnlaadoor", sum := "d2740970f9627e7aa8760947ae1c99f59ff871326321355540c5eb9cf2317392", func := "jobshell/jobshelllaw27.ProcWaits", spec := "procWaits", inPlace := ["slices.overlaps[jobshell/api.Proc]"], unfollowed := true, recurses := true, named := ["jobshell/signal.names"], apart := false, laid := [("jobshell/signal.names", laid_jobshell_signal_names)] }
def ProcWaitsSaid : Prop := procWaitsRow.holds Tryd.pinned (OpenSpec.ofChange procWaitsSpec)

/-- ITS FALSE NEIGHBOUR: 'it returns false'. Refute it at one input. -/
def procWaitsWrong : ChangeSpec := { name := "procWaits", fn := fun _ => fun
  | [d1, d2, d3, d4] => { results := [.lit (.bool false)], args := [d1, d2, d3, d4] }
  | _ => none }
def ProcWaitsWrongFalsely : Prop := procWaitsRow.holds Tryd.pinned (OpenSpec.ofChange procWaitsWrong)

/-- 'jobshelllaw27.ProcGroups': WHATEVER THE INPUT: true; the input reads as it did. -/
def procGroupsSpec : ChangeSpec := { name := "procGroups", fn := fun _ => fun
  | [d1, d2, d3, d4] => { results := [.lit (.bool true)], args := [d1, d2, d3, d4] }
  | _ => none }
def procGroupsRow : OpenClaim := { program := "ytgppkhbidcgnlaadoor", sum := "d2740970f9627e7aa8760947ae1c99f59ff871326321355540c5eb9cf2317392", func := "jobshell/jobshelllaw27.ProcGroups", spec := "procGroups", inPlace := ["slices.overlaps[jobshell/api.Proc]"], unfollowed := true, recurses := true, named := ["jobshell/signal.names"], apart := false, laid := [("jobshell/signal.names", laid_jobshell_signal_names)] }
def ProcGroupsSaid : Prop := procGroupsRow.holds Tryd.pinned (OpenSpec.ofChange procGroupsSpec)

/-- ITS FALSE NEIGHBOUR: 'it returns false'. Refute it at one input. -/
def procGroupsWrong : ChangeSpec := { name := "procGroups", fn := fun _ => fun
  | [d1, d2, d3, d4] => { results := [.lit (.bool false)], args := [d1, d2, d3, d4] }
  | _ => none }
def ProcGroupsWrongFalsely : Prop := procGroupsRow.holds Tryd.pinned (OpenSpec.ofChange procGroupsWrong)

/-- 'jobshelllaw27.ProcOnce': WHATEVER THE INPUT: true; the input reads as it did. -/
def procOnceSpec : ChangeSpec := { name := "procOnce", fn := fun _ => fun
  | [d1, d2, d3, d4] => { results := [.lit (.bool true)], args := [d1, d2, d3, d4] }
  | _ => none }
def procOnceRow : OpenClaim := { program := "ytgppkhbidcgnlaadoor", sum := "d2740970f9627e7aa8760947ae1c99f59ff871326321355540c5eb9cf2317392", func := "jobshell/jobshelllaw27.ProcOnce", spec := "procOnce", inPlace := ["slices.overlaps[jobshell/api.Proc]"], unfollowed := true, recurses := true, named := ["jobshell/signal.names"], apart := false, laid := [("jobshell/signal.names", laid_jobshell_signal_names)] }
def ProcOnceSaid : Prop := procOnceRow.holds Tryd.pinned (OpenSpec.ofChange procOnceSpec)

/-- ITS FALSE NEIGHBOUR: 'it returns false'. Refute it at one input. -/
def procOnceWrong : ChangeSpec := { name := "procOnce", fn := fun _ => fun
  | [d1, d2, d3, d4] => { results := [.lit (.bool false)], args := [d1, d2, d3, d4] }
  | _ => none }
def ProcOnceWrongFalsely : Prop := procOnceRow.holds Tryd.pinned (OpenSpec.ofChange procOnceWrong)

/-- 'jobshelllaw27.ProcMeans': WHATEVER THE INPUT: true; the input reads as it did. -/
def procMeansSpec : ChangeSpec := { name := "procMeans", fn := fun _ => fun
  | [d1, d2, d3] => { results := [.lit (.bool true)], args := [d1, d2, d3] }
  | _ => none }
def procMeansRow : OpenClaim := { program := "ytgppkhbidcgnlaadoor", sum := "d2740970f9627e7aa8760947ae1c99f59ff871326321355540c5eb9cf2317392", func := "jobshell/jobshelllaw27.ProcMeans", spec := "procMeans", inPlace := ["slices.overlaps[jobshell/api.Proc]"], unfollowed := true, recurses := true, named := ["jobshell/signal.names"], apart := false, laid := [("jobshell/signal.names", laid_jobshell_signal_names)] }
def ProcMeansSaid : Prop := procMeansRow.holds Tryd.pinned (OpenSpec.ofChange procMeansSpec)

/-- ITS FALSE NEIGHBOUR: 'it returns false'. Refute it at one input. -/
def procMeansWrong : ChangeSpec := { name := "procMeans", fn := fun _ => fun
  | [d1, d2, d3] => { results := [.lit (.bool false)], args := [d1, d2, d3] }
  | _ => none }
def ProcMeansWrongFalsely : Prop := procMeansRow.holds Tryd.pinned (OpenSpec.ofChange procMeansWrong)

/-- 'jobshelllaw27.ProcLives': WHATEVER THE INPUT: true; the input reads as it did. -/
def procLivesSpec : ChangeSpec := { name := "procLives", fn := fun _ => fun
  | [d1, d2, d3, d4, d5] => { results := [.lit (.bool true)], args := [d1, d2, d3, d4, d5] }
  | _ => none }
def procLivesRow : OpenClaim := { program := "ytgppkhbidcgnlaadoor", sum := "d2740970f9627e7aa8760947ae1c99f59ff871326321355540c5eb9cf2317392", func := "jobshell/jobshelllaw27.ProcLives", spec := "procLives", inPlace := ["slices.overlaps[jobshell/api.Proc]"], unfollowed := true, recurses := true, named := ["jobshell/signal.names"], apart := false, laid := [("jobshell/signal.names", laid_jobshell_signal_names)] }
def ProcLivesSaid : Prop := procLivesRow.holds Tryd.pinned (OpenSpec.ofChange procLivesSpec)

/-- ITS FALSE NEIGHBOUR: 'it returns false'. Refute it at one input. -/
def procLivesWrong : ChangeSpec := { name := "procLives", fn := fun _ => fun
  | [d1, d2, d3, d4, d5] => { results := [.lit (.bool false)], args := [d1, d2, d3, d4, d5] }
  | _ => none }
def ProcLivesWrongFalsely : Prop := procLivesRow.holds Tryd.pinned (OpenSpec.ofChange procLivesWrong)

/-- 'jobshelllaw27.ProcStays': WHATEVER THE INPUT: true; the input reads as it did. -/
def procStaysSpec : ChangeSpec := { name := "procStays", fn := fun _ => fun
  | [d] => { results := [.lit (.bool true)], args := [d] }
  | _ => none }
def procStaysRow : OpenClaim := { program := "ytgppkhbidcgnlaadoor", sum := "d2740970f9627e7aa8760947ae1c99f59ff871326321355540c5eb9cf2317392", func := "jobshell/jobshelllaw27.ProcStays", spec := "procStays", inPlace := ["slices.overlaps[jobshell/api.Proc]"], unfollowed := true, recurses := true, named := ["jobshell/signal.names"], apart := false, laid := [("jobshell/signal.names", laid_jobshell_signal_names)] }
def ProcStaysSaid : Prop := procStaysRow.holds Tryd.pinned (OpenSpec.ofChange procStaysSpec)

/-- ITS FALSE NEIGHBOUR: 'it returns false'. Refute it at one input. -/
def procStaysWrong : ChangeSpec := { name := "procStays", fn := fun _ => fun
  | [d] => { results := [.lit (.bool false)], args := [d] }
  | _ => none }
def ProcStaysWrongFalsely : Prop := procStaysRow.holds Tryd.pinned (OpenSpec.ofChange procStaysWrong)

/- THE SECOND FORM. 'bulk': how many values and letters a reading holds, each counted each time it is reached (what is shared counts as often as it is met; a slice's spare places count too). A statement '..UptoSaid' is the law's where the arguments, and the package variables that the reading takes, are together of bulk at most 1048576: NARROWER than '..Said'. Prove '..Said' where nothing that the law and all that it calls make is longer than what came in: it says more and counts as full. Else prove '..UptoSaid'. A law counts once. -/
mutual
def uptoBulk {H : Type} : DataW H → Nat
  | .lit (.string bytes) => bytes.length + 1
  | .lit _ => 1
  | .nil => 1
  | .ptr d => uptoBulk d + 1
  | .slice elems spare => uptoBulkAll elems + uptoBulkAll spare + 1
  | .agg parts => uptoBulkAll parts + 1
  | .iface _ d => uptoBulk d + 1
  | .map entries => uptoBulkEntries entries + 1
  | .held _ => 1
def uptoBulkAll {H : Type} : List (DataW H) → Nat
  | [] => 0
  | d :: r => uptoBulk d + uptoBulkAll r
def uptoBulkEntries {H : Type} : List (Lit × DataW H) → Nat
  | [] => 0
  | x :: r => uptoBulkEntry x + uptoBulkEntries r
def uptoBulkEntry {H : Type} : Lit × DataW H → Nat
  | (.string bytes, d) => bytes.length + uptoBulk d + 1
  | (_, d) => uptoBulk d + 1
 end
def uptoSmall : (H : Type) → List (DataW H) → Bool := fun _ ds => decide (uptoBulkAll ds ≤ 1048576)
def OpenSpec.upto (s : _root_.Go.ChangeSpec) : _root_.Go.OpenSpec := { _root_.Go.OpenSpec.ofChange s with cond := some uptoSmall }

/-- 'jobshelllaw27.ProcValid', WHERE WHAT IT READS IS OF BULK AT MOST 1048576: true; the input reads as it did. -/
def procValidUptoRow : OpenClaim := { program := "ytgppkhbidcgnlaadoor", sum := "d2740970f9627e7aa8760947ae1c99f59ff871326321355540c5eb9cf2317392", func := "jobshell/jobshelllaw27.ProcValid", spec := "procValid", inPlace := ["slices.overlaps[jobshell/api.Proc]"], unfollowed := true, recurses := true, named := ["jobshell/signal.names"], apart := false, laid := [("jobshell/signal.names", laid_jobshell_signal_names)], narrowed := true }
def ProcValidUptoSaid : Prop := procValidUptoRow.holds Tryd.pinned (OpenSpec.upto procValidSpec)

/-- 'jobshelllaw27.ProcWaits', WHERE WHAT IT READS IS OF BULK AT MOST 1048576: true; the input reads as it did. -/
def procWaitsUptoRow : OpenClaim := { program := "ytgppkhbidcgnlaadoor", sum := "d2740970f9627e7aa8760947ae1c99f59ff871326321355540c5eb9cf2317392", func := "jobshell/jobshelllaw27.ProcWaits", spec := "procWaits", inPlace := ["slices.overlaps[jobshell/api.Proc]"], unfollowed := true, recurses := true, named := ["jobshell/signal.names"], apart := false, laid := [("jobshell/signal.names", laid_jobshell_signal_names)], narrowed := true }
def ProcWaitsUptoSaid : Prop := procWaitsUptoRow.holds Tryd.pinned (OpenSpec.upto procWaitsSpec)

/-- 'jobshelllaw27.ProcGroups', WHERE WHAT IT READS IS OF BULK AT MOST 1048576: true; the input reads as it did. -/
def procGroupsUptoRow : OpenClaim := { program := "ytgppkhbidcgnlaadoor", sum := "d2740970f9627e7aa8760947ae1c99f59ff871326321355540c5eb9cf2317392", func := "jobshell/jobshelllaw27.ProcGroups", spec := "procGroups", inPlace := ["slices.overlaps[jobshell/api.Proc]"], unfollowed := true, recurses := true, named := ["jobshell/signal.names"], apart := false, laid := [("jobshell/signal.names", laid_jobshell_signal_names)], narrowed := true }
def ProcGroupsUptoSaid : Prop := procGroupsUptoRow.holds Tryd.pinned (OpenSpec.upto procGroupsSpec)

/-- 'jobshelllaw27.ProcOnce', WHERE WHAT IT READS IS OF BULK AT MOST 1048576: true; the input reads as it did. -/
def procOnceUptoRow : OpenClaim := { program := "ytgppkhbidcgnlaadoor", sum := "d2740970f9627e7aa8760947ae1c99f59ff871326321355540c5eb9cf2317392", func := "jobshell/jobshelllaw27.ProcOnce", spec := "procOnce", inPlace := ["slices.overlaps[jobshell/api.Proc]"], unfollowed := true, recurses := true, named := ["jobshell/signal.names"], apart := false, laid := [("jobshell/signal.names", laid_jobshell_signal_names)], narrowed := true }
def ProcOnceUptoSaid : Prop := procOnceUptoRow.holds Tryd.pinned (OpenSpec.upto procOnceSpec)

/-- 'jobshelllaw27.ProcMeans', WHERE WHAT IT READS IS OF BULK AT MOST 1048576: true; the input reads as it did. -/
def procMeansUptoRow : OpenClaim := { program := "ytgppkhbidcgnlaadoor", sum := "d2740970f9627e7aa8760947ae1c99f59ff871326321355540c5eb9cf2317392", func := "jobshell/jobshelllaw27.ProcMeans", spec := "procMeans", inPlace := ["slices.overlaps[jobshell/api.Proc]"], unfollowed := true, recurses := true, named := ["jobshell/signal.names"], apart := false, laid := [("jobshell/signal.names", laid_jobshell_signal_names)], narrowed := true }
def ProcMeansUptoSaid : Prop := procMeansUptoRow.holds Tryd.pinned (OpenSpec.upto procMeansSpec)

/-- 'jobshelllaw27.ProcLives', WHERE WHAT IT READS IS OF BULK AT MOST 1048576: true; the input reads as it did. -/
def procLivesUptoRow : OpenClaim := { program := "ytgppkhbidcgnlaadoor", sum := "d2740970f9627e7aa8760947ae1c99f59ff871326321355540c5eb9cf2317392", func := "jobshell/jobshelllaw27.ProcLives", spec := "procLives", inPlace := ["slices.overlaps[jobshell/api.Proc]"], unfollowed := true, recurses := true, named := ["jobshell/signal.names"], apart := false, laid := [("jobshell/signal.names", laid_jobshell_signal_names)], narrowed := true }
def ProcLivesUptoSaid : Prop := procLivesUptoRow.holds Tryd.pinned (OpenSpec.upto procLivesSpec)

/-- 'jobshelllaw27.ProcStays', WHERE WHAT IT READS IS OF BULK AT MOST 1048576: true; the input reads as it did. -/
def procStaysUptoRow : OpenClaim := { program := "ytgppkhbidcgnlaadoor", sum := "d2740970f9627e7aa8760947ae1c99f59ff871326321355540c5eb9cf2317392", func := "jobshell/jobshelllaw27.ProcStays", spec := "procStays", inPlace := ["slices.overlaps[jobshell/api.Proc]"], unfollowed := true, recurses := true, named := ["jobshell/signal.names"], apart := false, laid := [("jobshell/signal.names", laid_jobshell_signal_names)], narrowed := true }
def ProcStaysUptoSaid : Prop := procStaysUptoRow.holds Tryd.pinned (OpenSpec.upto procStaysSpec)

end Rows
end Go.Proofs.YtgppkhbidcgnlaaDoor
