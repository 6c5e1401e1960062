/-
  No cell of these rows narrows 'for every input' (looked for: loops, veiled, ifaces, maps, wideKeys, modest, calm, conditions, laid).
  DERIVED. THE GIVEN ROWS OF THIS SEAT. 3 by the template 'for every input the law returns true; each argument reads behind the call as it read before'; 0 by the template 'total and deterministic' (their statements: YtedaefjmclkifaaTotals.lean).
  GIVEN WITH THE SEED: the statements are not yours to turn. If you find one false, say at which input.
  Laid BY PROGRAM, IN A SANDBOX (cutbox-rows.mjs): the forced cells as the released guide's own fill.sh prints them over the translation a9a534122f41837f… (all of the seat's roots in one cut). By AI agents, Wed Nov 11 2026. No macro, syntax, notation, axiom, sorry.
-/
import Derived.Test.YtedaefjmclkifaaChecked
import GoSem.Claim
import GoSem.ClaimJoined
import GoSem.ClaimMapViews
import Derived.JoinedTies
import Derived.KernelRfl
namespace Go.Proofs.Ytedaefjmclkifaa
/- THE CELL 'sum', in the pinned program and in every row, IS THE sha256 OF THE DUMP (.gsa) THAT YtedaefjmclkifaaProg.lean LOADS. Nothing in Lean hashes anything: it is a label: what it is worth is what the hold of that sum in a sandbox is worth. -/
noncomputable def Try.pinned : Pinned := { name := "ytedaefjmclkifaa", sum := "a9a534122f41837fe0caad1be9992a321f879764afc2813e7efbf96b397e617f", checked := Try.checked }
namespace Rows
def none {H : Type} : Left H := { results := [], args := [] }

/-- 'jobshelllaw38.ControlStarts': WHATEVER THE INPUT: true; the input reads as it did. -/
def controlStartsSpec : ChangeSpec := { name := "controlStarts", fn := fun _ => fun
  | [d1, d2, d3] => { results := [.lit (.bool true)], args := [d1, d2, d3] }
  | _ => none }
def controlStartsRow : OpenClaim := { program := "ytedaefjmclkifaa", sum := "a9a534122f41837fe0caad1be9992a321f879764afc2813e7efbf96b397e617f", func := "jobshell/jobshelllaw38.ControlStarts", spec := "controlStarts", apart := false }
def ControlStartsSaid : Prop := controlStartsRow.holds Try.pinned (OpenSpec.ofChange controlStartsSpec)

/-- ITS FALSE NEIGHBOUR: 'it returns false'. Refute it at one input. -/
def controlStartsWrong : ChangeSpec := { name := "controlStarts", fn := fun _ => fun
  | [d1, d2, d3] => { results := [.lit (.bool false)], args := [d1, d2, d3] }
  | _ => none }
def ControlStartsWrongFalsely : Prop := controlStartsRow.holds Try.pinned (OpenSpec.ofChange controlStartsWrong)

/-- 'jobshelllaw38.ControlChildren': WHATEVER THE INPUT: true; the input reads as it did. -/
def controlChildrenSpec : ChangeSpec := { name := "controlChildren", fn := fun _ => fun
  | [d1, d2, d3] => { results := [.lit (.bool true)], args := [d1, d2, d3] }
  | _ => none }
def controlChildrenRow : OpenClaim := { program := "ytedaefjmclkifaa", sum := "a9a534122f41837fe0caad1be9992a321f879764afc2813e7efbf96b397e617f", func := "jobshell/jobshelllaw38.ControlChildren", spec := "controlChildren", apart := false }
def ControlChildrenSaid : Prop := controlChildrenRow.holds Try.pinned (OpenSpec.ofChange controlChildrenSpec)

/-- ITS FALSE NEIGHBOUR: 'it returns false'. Refute it at one input. -/
def controlChildrenWrong : ChangeSpec := { name := "controlChildren", fn := fun _ => fun
  | [d1, d2, d3] => { results := [.lit (.bool false)], args := [d1, d2, d3] }
  | _ => none }
def ControlChildrenWrongFalsely : Prop := controlChildrenRow.holds Try.pinned (OpenSpec.ofChange controlChildrenWrong)

/-- 'jobshelllaw38.ControlContinues': WHATEVER THE INPUT: true; the input reads as it did. -/
def controlContinuesSpec : ChangeSpec := { name := "controlContinues", fn := fun _ => fun
  | [d1, d2] => { results := [.lit (.bool true)], args := [d1, d2] }
  | _ => none }
def controlContinuesRow : OpenClaim := { program := "ytedaefjmclkifaa", sum := "a9a534122f41837fe0caad1be9992a321f879764afc2813e7efbf96b397e617f", func := "jobshell/jobshelllaw38.ControlContinues", spec := "controlContinues", apart := false }
def ControlContinuesSaid : Prop := controlContinuesRow.holds Try.pinned (OpenSpec.ofChange controlContinuesSpec)

/-- ITS FALSE NEIGHBOUR: 'it returns false'. Refute it at one input. -/
def controlContinuesWrong : ChangeSpec := { name := "controlContinues", fn := fun _ => fun
  | [d1, d2] => { results := [.lit (.bool false)], args := [d1, d2] }
  | _ => none }
def ControlContinuesWrongFalsely : Prop := controlContinuesRow.holds Try.pinned (OpenSpec.ofChange controlContinuesWrong)

/- THE SECOND FORM. 'bulk': how many values and letters a reading holds, each counted each time it is reached (what is shared counts as often as it is met; a slice's spare places count too). A statement '..UptoSaid' is the law's where the arguments, and the package variables that the reading takes, are together of bulk at most 1048576: NARROWER than '..Said'. Prove '..Said' where nothing that the law and all that it calls make is longer than what came in: it says more and counts as full. Else prove '..UptoSaid'. A law counts once. -/
mutual
def uptoBulk {H : Type} : DataW H → Nat
  | .lit (.string bytes) => bytes.length + 1
  | .lit _ => 1
  | .nil => 1
  | .ptr d => uptoBulk d + 1
  | .slice elems spare => uptoBulkAll elems + uptoBulkAll spare + 1
  | .agg parts => uptoBulkAll parts + 1
  | .iface _ d => uptoBulk d + 1
  | .map entries => uptoBulkEntries entries + 1
  | .held _ => 1
def uptoBulkAll {H : Type} : List (DataW H) → Nat
  | [] => 0
  | d :: r => uptoBulk d + uptoBulkAll r
def uptoBulkEntries {H : Type} : List (Lit × DataW H) → Nat
  | [] => 0
  | x :: r => uptoBulkEntry x + uptoBulkEntries r
def uptoBulkEntry {H : Type} : Lit × DataW H → Nat
  | (.string bytes, d) => bytes.length + uptoBulk d + 1
  | (_, d) => uptoBulk d + 1
 end
def uptoSmall : (H : Type) → List (DataW H) → Bool := fun _ ds => decide (uptoBulkAll ds ≤ 1048576)
def OpenSpec.upto (s : _root_.Go.ChangeSpec) : _root_.Go.OpenSpec := { _root_.Go.OpenSpec.ofChange s with cond := some uptoSmall }

/-- 'jobshelllaw38.ControlStarts', WHERE WHAT IT READS IS OF BULK AT MOST 1048576: true; the input reads as it did. -/
def controlStartsUptoRow : OpenClaim := { program := "ytedaefjmclkifaa", sum := "a9a534122f41837fe0caad1be9992a321f879764afc2813e7efbf96b397e617f", func := "jobshell/jobshelllaw38.ControlStarts", spec := "controlStarts", apart := false, narrowed := true }
def ControlStartsUptoSaid : Prop := controlStartsUptoRow.holds Try.pinned (OpenSpec.upto controlStartsSpec)

/-- 'jobshelllaw38.ControlChildren', WHERE WHAT IT READS IS OF BULK AT MOST 1048576: true; the input reads as it did. -/
def controlChildrenUptoRow : OpenClaim := { program := "ytedaefjmclkifaa", sum := "a9a534122f41837fe0caad1be9992a321f879764afc2813e7efbf96b397e617f", func := "jobshell/jobshelllaw38.ControlChildren", spec := "controlChildren", apart := false, narrowed := true }
def ControlChildrenUptoSaid : Prop := controlChildrenUptoRow.holds Try.pinned (OpenSpec.upto controlChildrenSpec)

/-- 'jobshelllaw38.ControlContinues', WHERE WHAT IT READS IS OF BULK AT MOST 1048576: true; the input reads as it did. -/
def controlContinuesUptoRow : OpenClaim := { program := "ytedaefjmclkifaa", sum := "a9a534122f41837fe0caad1be9992a321f879764afc2813e7efbf96b397e617f", func := "jobshell/jobshelllaw38.ControlContinues", spec := "controlContinues", apart := false, narrowed := true }
def ControlContinuesUptoSaid : Prop := controlContinuesUptoRow.holds Try.pinned (OpenSpec.upto controlContinuesSpec)

end Rows
end Go.Proofs.Ytedaefjmclkifaa
