/-
  NARROWER THAN 'FOR EVERY INPUT', by the rows' own cells (each row's printed sentence says how): RedirectPlans: loops.
  DERIVED. THE GIVEN ROWS OF THIS SEAT. 4 by the template 'for every input the law returns true; each argument reads behind the call as it read before'; 0 by the template 'total and deterministic' (their statements: YtddcoboldcenkaaTotals.lean).
  GIVEN WITH THE SEED: the statements are not yours to turn. If you find one false, say at which input.
  Laid BY PROGRAM, IN A SANDBOX (cutbox-rows.mjs): the forced cells as the released guide's own fill.sh prints them over the translation 91487a9328e07c6b… (all of the seat's roots in one cut). By AI agents, Wed Nov 11 2026. No macro, syntax, notation, axiom, sorry.
-/
import Derived.Test.YtddcoboldcenkaaChecked
import GoSem.Claim
import GoSem.ClaimJoined
import GoSem.ClaimMapViews
import Derived.JoinedTies
import Derived.KernelRfl
namespace Go.Proofs.Ytddcoboldcenkaa
/- THE CELL 'sum', in the pinned program and in every row, IS THE sha256 OF THE DUMP (.gsa) THAT YtddcoboldcenkaaProg.lean LOADS. Nothing in Lean hashes anything: it is a label: what it is worth is what the hold of that sum in a sandbox is worth. -/
noncomputable def Try.pinned : Pinned := { name := "ytddcoboldcenkaa", sum := "91487a9328e07c6b86648e3adeee2209ce430062a31f9980676762c0886e96c6", checked := Try.checked }
namespace Rows
def none {H : Type} : Left H := { results := [], args := [] }

/-- 'jobshelllaw35.RedirectPlans': WHATEVER THE INPUT: true; the input reads as it did. -/
def redirectPlansSpec : ChangeSpec := { name := "redirectPlans", fn := fun _ => fun
  | [d1, d2, d3] => { results := [.lit (.bool true)], args := [d1, d2, d3] }
  | _ => none }
def redirectPlansRow : OpenClaim := { program := "ytddcoboldcenkaa", sum := "91487a9328e07c6b86648e3adeee2209ce430062a31f9980676762c0886e96c6", func := "jobshell/jobshelllaw35.RedirectPlans", spec := "redirectPlans", unfollowed := true, recurses := true, loops := true, apart := false }
def RedirectPlansSaid : Prop := redirectPlansRow.holds Try.pinned (OpenSpec.ofChange redirectPlansSpec)

/-- ITS FALSE NEIGHBOUR: 'it returns false'. Refute it at one input. -/
def redirectPlansWrong : ChangeSpec := { name := "redirectPlans", fn := fun _ => fun
  | [d1, d2, d3] => { results := [.lit (.bool false)], args := [d1, d2, d3] }
  | _ => none }
def RedirectPlansWrongFalsely : Prop := redirectPlansRow.holds Try.pinned (OpenSpec.ofChange redirectPlansWrong)

/-- 'jobshelllaw35.RedirectKeeps': WHATEVER THE INPUT: true; the input reads as it did. -/
def redirectKeepsSpec : ChangeSpec := { name := "redirectKeeps", fn := fun _ => fun
  | [d] => { results := [.lit (.bool true)], args := [d] }
  | _ => none }
def redirectKeepsRow : OpenClaim := { program := "ytddcoboldcenkaa", sum := "91487a9328e07c6b86648e3adeee2209ce430062a31f9980676762c0886e96c6", func := "jobshell/jobshelllaw35.RedirectKeeps", spec := "redirectKeeps", unfollowed := true, recurses := true, apart := false }
def RedirectKeepsSaid : Prop := redirectKeepsRow.holds Try.pinned (OpenSpec.ofChange redirectKeepsSpec)

/-- ITS FALSE NEIGHBOUR: 'it returns false'. Refute it at one input. -/
def redirectKeepsWrong : ChangeSpec := { name := "redirectKeeps", fn := fun _ => fun
  | [d] => { results := [.lit (.bool false)], args := [d] }
  | _ => none }
def RedirectKeepsWrongFalsely : Prop := redirectKeepsRow.holds Try.pinned (OpenSpec.ofChange redirectKeepsWrong)

/-- 'jobshelllaw35.RedirectAsks': WHATEVER THE INPUT: true; the input reads as it did. -/
def redirectAsksSpec : ChangeSpec := { name := "redirectAsks", fn := fun _ => fun
  | [d] => { results := [.lit (.bool true)], args := [d] }
  | _ => none }
def redirectAsksRow : OpenClaim := { program := "ytddcoboldcenkaa", sum := "91487a9328e07c6b86648e3adeee2209ce430062a31f9980676762c0886e96c6", func := "jobshell/jobshelllaw35.RedirectAsks", spec := "redirectAsks", unfollowed := true, recurses := true, apart := false }
def RedirectAsksSaid : Prop := redirectAsksRow.holds Try.pinned (OpenSpec.ofChange redirectAsksSpec)

/-- ITS FALSE NEIGHBOUR: 'it returns false'. Refute it at one input. -/
def redirectAsksWrong : ChangeSpec := { name := "redirectAsks", fn := fun _ => fun
  | [d] => { results := [.lit (.bool false)], args := [d] }
  | _ => none }
def RedirectAsksWrongFalsely : Prop := redirectAsksRow.holds Try.pinned (OpenSpec.ofChange redirectAsksWrong)

/-- 'jobshelllaw35.RedirectOnce': WHATEVER THE INPUT: true; the input reads as it did. -/
def redirectOnceSpec : ChangeSpec := { name := "redirectOnce", fn := fun _ => fun
  | [d] => { results := [.lit (.bool true)], args := [d] }
  | _ => none }
def redirectOnceRow : OpenClaim := { program := "ytddcoboldcenkaa", sum := "91487a9328e07c6b86648e3adeee2209ce430062a31f9980676762c0886e96c6", func := "jobshell/jobshelllaw35.RedirectOnce", spec := "redirectOnce", unfollowed := true, recurses := true, apart := false }
def RedirectOnceSaid : Prop := redirectOnceRow.holds Try.pinned (OpenSpec.ofChange redirectOnceSpec)

/-- ITS FALSE NEIGHBOUR: 'it returns false'. Refute it at one input. -/
def redirectOnceWrong : ChangeSpec := { name := "redirectOnce", fn := fun _ => fun
  | [d] => { results := [.lit (.bool false)], args := [d] }
  | _ => none }
def RedirectOnceWrongFalsely : Prop := redirectOnceRow.holds Try.pinned (OpenSpec.ofChange redirectOnceWrong)

/- THE SECOND FORM. 'bulk': how many values and letters a reading holds, each counted each time it is reached (what is shared counts as often as it is met; a slice's spare places count too). A statement '..UptoSaid' is the law's where the arguments, and the package variables that the reading takes, are together of bulk at most 1048576: NARROWER than '..Said'. Prove '..Said' where nothing that the law and all that it calls make is longer than what came in: it says more and counts as full. Else prove '..UptoSaid'. A law counts once. -/
mutual
def uptoBulk {H : Type} : DataW H → Nat
  | .lit (.string bytes) => bytes.length + 1
  | .lit _ => 1
  | .nil => 1
  | .ptr d => uptoBulk d + 1
  | .slice elems spare => uptoBulkAll elems + uptoBulkAll spare + 1
  | .agg parts => uptoBulkAll parts + 1
  | .iface _ d => uptoBulk d + 1
  | .map entries => uptoBulkEntries entries + 1
  | .held _ => 1
def uptoBulkAll {H : Type} : List (DataW H) → Nat
  | [] => 0
  | d :: r => uptoBulk d + uptoBulkAll r
def uptoBulkEntries {H : Type} : List (Lit × DataW H) → Nat
  | [] => 0
  | x :: r => uptoBulkEntry x + uptoBulkEntries r
def uptoBulkEntry {H : Type} : Lit × DataW H → Nat
  | (.string bytes, d) => bytes.length + uptoBulk d + 1
  | (_, d) => uptoBulk d + 1
 end
def uptoSmall : (H : Type) → List (DataW H) → Bool := fun _ ds => decide (uptoBulkAll ds ≤ 1048576)
def OpenSpec.upto (s : _root_.Go.ChangeSpec) : _root_.Go.OpenSpec := { _root_.Go.OpenSpec.ofChange s with cond := some uptoSmall }

/-- 'jobshelllaw35.RedirectPlans', WHERE WHAT IT READS IS OF BULK AT MOST 1048576: true; the input reads as it did. -/
def redirectPlansUptoRow : OpenClaim := { program := "ytddcoboldcenkaa", sum := "91487a9328e07c6b86648e3adeee2209ce430062a31f9980676762c0886e96c6", func := "jobshell/jobshelllaw35.RedirectPlans", spec := "redirectPlans", unfollowed := true, recurses := true, loops := true, apart := false, narrowed := true }
def RedirectPlansUptoSaid : Prop := redirectPlansUptoRow.holds Try.pinned (OpenSpec.upto redirectPlansSpec)

/-- 'jobshelllaw35.RedirectKeeps', WHERE WHAT IT READS IS OF BULK AT MOST 1048576: true; the input reads as it did. -/
def redirectKeepsUptoRow : OpenClaim := { program := "ytddcoboldcenkaa", sum := "91487a9328e07c6b86648e3adeee2209ce430062a31f9980676762c0886e96c6", func := "jobshell/jobshelllaw35.RedirectKeeps", spec := "redirectKeeps", unfollowed := true, recurses := true, apart := false, narrowed := true }
def RedirectKeepsUptoSaid : Prop := redirectKeepsUptoRow.holds Try.pinned (OpenSpec.upto redirectKeepsSpec)

/-- 'jobshelllaw35.RedirectAsks', WHERE WHAT IT READS IS OF BULK AT MOST 1048576: true; the input reads as it did. -/
def redirectAsksUptoRow : OpenClaim := { program := "ytddcoboldcenkaa", sum := "91487a9328e07c6b86648e3adeee2209ce430062a31f9980676762c0886e96c6", func := "jobshell/jobshelllaw35.RedirectAsks", spec := "redirectAsks", unfollowed := true, recurses := true, apart := false, narrowed := true }
def RedirectAsksUptoSaid : Prop := redirectAsksUptoRow.holds Try.pinned (OpenSpec.upto redirectAsksSpec)

/-- 'jobshelllaw35.RedirectOnce', WHERE WHAT IT READS IS OF BULK AT MOST 1048576: true; the input reads as it did. -/
def redirectOnceUptoRow : OpenClaim := { program := "ytddcoboldcenkaa", sum := "91487a9328e07c6b86648e3adeee2209ce430062a31f9980676762c0886e96c6", func := "jobshell/jobshelllaw35.RedirectOnce", spec := "redirectOnce", unfollowed := true, recurses := true, apart := false, narrowed := true }
def RedirectOnceUptoSaid : Prop := redirectOnceUptoRow.holds Try.pinned (OpenSpec.upto redirectOnceSpec)

end Rows
end Go.Proofs.Ytddcoboldcenkaa
