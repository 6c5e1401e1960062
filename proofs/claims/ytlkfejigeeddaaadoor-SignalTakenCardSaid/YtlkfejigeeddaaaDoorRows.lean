/-
  NARROWER THAN 'FOR EVERY INPUT', by the rows' own cells (each row's printed sentence says how): SignalNames: laid · SignalSends: laid · SignalTaken: laid · SignalIgnored: laid · SignalValid: laid · SignalSets: laid · SignalStays: laid.
  DERIVED. THE GIVEN ROWS OF THIS SEAT. 7 by the template 'for every input the law returns true; each argument reads behind the call as it read before'; 0 by the template 'total and deterministic' (their statements: YtlkfejigeeddaaaDoorTotals.lean).
  GIVEN WITH THE SEED: the statements are not yours to turn. If you find one false, say at which input.
  Laid BY PROGRAM, IN A SANDBOX (cutbox-rows.mjs): the forced cells as the released guide's own fill.sh prints them over the translation 10d7908775f73567… (all of the seat's roots in one cut). By AI agents, Wed Nov 11 2026. No macro, syntax, notation, axiom, sorry.
-/
import Derived.Test.YtlkfejigeeddaaaDoorChecked
import GoSem.Claim
import GoSem.ClaimJoined
import GoSem.ClaimMapViews
import Derived.JoinedTies
import Derived.KernelRfl
namespace Go.Proofs.YtlkfejigeeddaaaDoor
/- THE CELL 'sum', in the pinned program and in every row, IS THE sha256 OF THE DUMP (.gsa) THAT YtlkfejigeeddaaaDoorProg.lean LOADS. Nothing in Lean hashes anything: it is a label: what it is worth is what the hold of that sum in a sandbox is worth. -/
noncomputable def Tryd.pinned : Pinned := { name := "ytlkfejigeeddaaadoor", sum := "10d7908775f735674576b2a002a137617af7d1341abf94180707794846e836a4", checked := Tryd.checked }
namespace Rows
def none {H : Type} : Left H := { results := [], args := [] }

/- WHAT THE LISTED PACKAGE-LEVEL VARIABLES READ AS WHEN THE CALL BEGINS. Each datum BY PROGRAM (the guide's laid-datum.mjs) off the statement by which the dump's own 'gosem.cut.vars' lays the variable. In a bare row this is a premise. The card (YtlkfejigeeddaaaDoorCards.lean) ties it to the program's text. -/
def laid_math_bits_deBruijn32tab {H : Type} : DataW H := .agg [.lit (.int .u8 0), .lit (.int .u8 1), .lit (.int .u8 28), .lit (.int .u8 2), .lit (.int .u8 29), .lit (.int .u8 14), .lit (.int .u8 24), .lit (.int .u8 3), .lit (.int .u8 30), .lit (.int .u8 22), .lit (.int .u8 20), .lit (.int .u8 15), .lit (.int .u8 25), .lit (.int .u8 17), .lit (.int .u8 4), .lit (.int .u8 8), .lit (.int .u8 31), .lit (.int .u8 27), .lit (.int .u8 13), .lit (.int .u8 23), .lit (.int .u8 21), .lit (.int .u8 19), .lit (.int .u8 16), .lit (.int .u8 7), .lit (.int .u8 26), .lit (.int .u8 12), .lit (.int .u8 18), .lit (.int .u8 6), .lit (.int .u8 11), .lit (.int .u8 5), .lit (.int .u8 10), .lit (.int .u8 9)]
def laid_math_bits_deBruijn64tab {H : Type} : DataW H := .agg [.lit (.int .u8 0), .lit (.int .u8 1), .lit (.int .u8 56), .lit (.int .u8 2), .lit (.int .u8 57), .lit (.int .u8 49), .lit (.int .u8 28), .lit (.int .u8 3), .lit (.int .u8 61), .lit (.int .u8 58), .lit (.int .u8 42), .lit (.int .u8 50), .lit (.int .u8 38), .lit (.int .u8 29), .lit (.int .u8 17), .lit (.int .u8 4), .lit (.int .u8 62), .lit (.int .u8 47), .lit (.int .u8 59), .lit (.int .u8 36), .lit (.int .u8 45), .lit (.int .u8 43), .lit (.int .u8 51), .lit (.int .u8 22), .lit (.int .u8 53), .lit (.int .u8 39), .lit (.int .u8 33), .lit (.int .u8 30), .lit (.int .u8 24), .lit (.int .u8 18), .lit (.int .u8 12), .lit (.int .u8 5), .lit (.int .u8 63), .lit (.int .u8 55), .lit (.int .u8 48), .lit (.int .u8 27), .lit (.int .u8 60), .lit (.int .u8 41), .lit (.int .u8 37), .lit (.int .u8 16), .lit (.int .u8 46), .lit (.int .u8 35), .lit (.int .u8 44), .lit (.int .u8 21), .lit (.int .u8 52), .lit (.int .u8 32), .lit (.int .u8 23), .lit (.int .u8 11), .lit (.int .u8 54), .lit (.int .u8 26), .lit (.int .u8 40), .lit (.int .u8 15), .lit (.int .u8 34), .lit (.int .u8 20), .lit (.int .u8 31), .lit (.int .u8 10), .lit (.int .u8 25), .lit (.int .u8 14), .lit (.int .u8 19), .lit (.int .u8 9), .lit (.int .u8 13), .lit (.int .u8 8), .lit (.int .u8 7), .lit (.int .u8 6)]
def laid_internal_strconv_uint64pow10 {H : Type} : DataW H := .agg [.lit (.int .u64 1), .lit (.int .u64 10), .lit (.int .u64 100), .lit (.int .u64 1000), .lit (.int .u64 10000), .lit (.int .u64 100000), .lit (.int .u64 1000000), .lit (.int .u64 10000000), .lit (.int .u64 100000000), .lit (.int .u64 1000000000), .lit (.int .u64 10000000000), .lit (.int .u64 100000000000), .lit (.int .u64 1000000000000), .lit (.int .u64 10000000000000), .lit (.int .u64 100000000000000), .lit (.int .u64 1000000000000000), .lit (.int .u64 10000000000000000), .lit (.int .u64 100000000000000000), .lit (.int .u64 1000000000000000000), .lit (.int .u64 10000000000000000000)]
def laid_jobshell_signal_names {H : Type} : DataW H := .agg [.lit (.string []), .lit (.string [72, 85, 80]), .lit (.string [73, 78, 84]), .lit (.string [81, 85, 73, 84]), .lit (.string [84, 84, 73, 78]), .lit (.string [84, 84, 79, 85]), .lit (.string []), .lit (.string []), .lit (.string []), .lit (.string [75, 73, 76, 76]), .lit (.string [85, 83, 82, 49]), .lit (.string []), .lit (.string [85, 83, 82, 50]), .lit (.string [80, 73, 80, 69]), .lit (.string [65, 76, 82, 77]), .lit (.string [84, 69, 82, 77]), .lit (.string []), .lit (.string [67, 72, 76, 68]), .lit (.string [67, 79, 78, 84]), .lit (.string [83, 84, 79, 80]), .lit (.string [84, 83, 84, 80])]

/-- 'jobshelllaw25.SignalNames': WHATEVER THE INPUT: true; the input reads as it did. -/
def signalNamesSpec : ChangeSpec := { name := "signalNames", fn := fun _ => fun
  | [d1, d2] => { results := [.lit (.bool true)], args := [d1, d2] }
  | _ => none }
def signalNamesRow : OpenClaim := { program := "ytlkfejigeeddaaadoor", sum := "10d7908775f735674576b2a002a137617af7d1341abf94180707794846e836a4", func := "jobshell/jobshelllaw25.SignalNames", spec := "signalNames", inPlace := ["slices.overlaps[int]"], unfollowed := true, recurses := true, named := ["jobshell/signal.names", "internal/strconv.uint64pow10", "math/bits.deBruijn32tab", "math/bits.deBruijn64tab"], apart := false, laid := [("math/bits.deBruijn32tab", laid_math_bits_deBruijn32tab), ("math/bits.deBruijn64tab", laid_math_bits_deBruijn64tab), ("internal/strconv.uint64pow10", laid_internal_strconv_uint64pow10), ("jobshell/signal.names", laid_jobshell_signal_names)] }
def SignalNamesSaid : Prop := signalNamesRow.holds Tryd.pinned (OpenSpec.ofChange signalNamesSpec)

/-- ITS FALSE NEIGHBOUR: 'it returns false'. Refute it at one input. -/
def signalNamesWrong : ChangeSpec := { name := "signalNames", fn := fun _ => fun
  | [d1, d2] => { results := [.lit (.bool false)], args := [d1, d2] }
  | _ => none }
def SignalNamesWrongFalsely : Prop := signalNamesRow.holds Tryd.pinned (OpenSpec.ofChange signalNamesWrong)

/-- 'jobshelllaw25.SignalSends': WHATEVER THE INPUT: true; the input reads as it did. -/
def signalSendsSpec : ChangeSpec := { name := "signalSends", fn := fun _ => fun
  | [d1, d2] => { results := [.lit (.bool true)], args := [d1, d2] }
  | _ => none }
def signalSendsRow : OpenClaim := { program := "ytlkfejigeeddaaadoor", sum := "10d7908775f735674576b2a002a137617af7d1341abf94180707794846e836a4", func := "jobshell/jobshelllaw25.SignalSends", spec := "signalSends", inPlace := ["slices.overlaps[int]"], unfollowed := true, recurses := true, named := ["jobshell/signal.names", "internal/strconv.uint64pow10", "math/bits.deBruijn32tab", "math/bits.deBruijn64tab"], apart := false, laid := [("math/bits.deBruijn32tab", laid_math_bits_deBruijn32tab), ("math/bits.deBruijn64tab", laid_math_bits_deBruijn64tab), ("internal/strconv.uint64pow10", laid_internal_strconv_uint64pow10), ("jobshell/signal.names", laid_jobshell_signal_names)] }
def SignalSendsSaid : Prop := signalSendsRow.holds Tryd.pinned (OpenSpec.ofChange signalSendsSpec)

/-- ITS FALSE NEIGHBOUR: 'it returns false'. Refute it at one input. -/
def signalSendsWrong : ChangeSpec := { name := "signalSends", fn := fun _ => fun
  | [d1, d2] => { results := [.lit (.bool false)], args := [d1, d2] }
  | _ => none }
def SignalSendsWrongFalsely : Prop := signalSendsRow.holds Tryd.pinned (OpenSpec.ofChange signalSendsWrong)

/-- 'jobshelllaw25.SignalTaken': WHATEVER THE INPUT: true; the input reads as it did. -/
def signalTakenSpec : ChangeSpec := { name := "signalTaken", fn := fun _ => fun
  | [d1, d2] => { results := [.lit (.bool true)], args := [d1, d2] }
  | _ => none }
def signalTakenRow : OpenClaim := { program := "ytlkfejigeeddaaadoor", sum := "10d7908775f735674576b2a002a137617af7d1341abf94180707794846e836a4", func := "jobshell/jobshelllaw25.SignalTaken", spec := "signalTaken", inPlace := ["slices.overlaps[int]"], unfollowed := true, recurses := true, named := ["jobshell/signal.names", "internal/strconv.uint64pow10", "math/bits.deBruijn32tab", "math/bits.deBruijn64tab"], apart := false, laid := [("math/bits.deBruijn32tab", laid_math_bits_deBruijn32tab), ("math/bits.deBruijn64tab", laid_math_bits_deBruijn64tab), ("internal/strconv.uint64pow10", laid_internal_strconv_uint64pow10), ("jobshell/signal.names", laid_jobshell_signal_names)] }
def SignalTakenSaid : Prop := signalTakenRow.holds Tryd.pinned (OpenSpec.ofChange signalTakenSpec)

/-- ITS FALSE NEIGHBOUR: 'it returns false'. Refute it at one input. -/
def signalTakenWrong : ChangeSpec := { name := "signalTaken", fn := fun _ => fun
  | [d1, d2] => { results := [.lit (.bool false)], args := [d1, d2] }
  | _ => none }
def SignalTakenWrongFalsely : Prop := signalTakenRow.holds Tryd.pinned (OpenSpec.ofChange signalTakenWrong)

/-- 'jobshelllaw25.SignalIgnored': WHATEVER THE INPUT: true; the input reads as it did. -/
def signalIgnoredSpec : ChangeSpec := { name := "signalIgnored", fn := fun _ => fun
  | [d1, d2, d3] => { results := [.lit (.bool true)], args := [d1, d2, d3] }
  | _ => none }
def signalIgnoredRow : OpenClaim := { program := "ytlkfejigeeddaaadoor", sum := "10d7908775f735674576b2a002a137617af7d1341abf94180707794846e836a4", func := "jobshell/jobshelllaw25.SignalIgnored", spec := "signalIgnored", inPlace := ["slices.overlaps[int]"], unfollowed := true, recurses := true, named := ["jobshell/signal.names", "internal/strconv.uint64pow10", "math/bits.deBruijn32tab", "math/bits.deBruijn64tab"], apart := false, laid := [("math/bits.deBruijn32tab", laid_math_bits_deBruijn32tab), ("math/bits.deBruijn64tab", laid_math_bits_deBruijn64tab), ("internal/strconv.uint64pow10", laid_internal_strconv_uint64pow10), ("jobshell/signal.names", laid_jobshell_signal_names)] }
def SignalIgnoredSaid : Prop := signalIgnoredRow.holds Tryd.pinned (OpenSpec.ofChange signalIgnoredSpec)

/-- ITS FALSE NEIGHBOUR: 'it returns false'. Refute it at one input. -/
def signalIgnoredWrong : ChangeSpec := { name := "signalIgnored", fn := fun _ => fun
  | [d1, d2, d3] => { results := [.lit (.bool false)], args := [d1, d2, d3] }
  | _ => none }
def SignalIgnoredWrongFalsely : Prop := signalIgnoredRow.holds Tryd.pinned (OpenSpec.ofChange signalIgnoredWrong)

/-- 'jobshelllaw25.SignalValid': WHATEVER THE INPUT: true; the input reads as it did. -/
def signalValidSpec : ChangeSpec := { name := "signalValid", fn := fun _ => fun
  | [d] => { results := [.lit (.bool true)], args := [d] }
  | _ => none }
def signalValidRow : OpenClaim := { program := "ytlkfejigeeddaaadoor", sum := "10d7908775f735674576b2a002a137617af7d1341abf94180707794846e836a4", func := "jobshell/jobshelllaw25.SignalValid", spec := "signalValid", inPlace := ["slices.overlaps[int]"], unfollowed := true, recurses := true, named := ["jobshell/signal.names", "internal/strconv.uint64pow10", "math/bits.deBruijn32tab", "math/bits.deBruijn64tab"], apart := false, laid := [("math/bits.deBruijn32tab", laid_math_bits_deBruijn32tab), ("math/bits.deBruijn64tab", laid_math_bits_deBruijn64tab), ("internal/strconv.uint64pow10", laid_internal_strconv_uint64pow10), ("jobshell/signal.names", laid_jobshell_signal_names)] }
def SignalValidSaid : Prop := signalValidRow.holds Tryd.pinned (OpenSpec.ofChange signalValidSpec)

/-- ITS FALSE NEIGHBOUR: 'it returns false'. Refute it at one input. -/
def signalValidWrong : ChangeSpec := { name := "signalValid", fn := fun _ => fun
  | [d] => { results := [.lit (.bool false)], args := [d] }
  | _ => none }
def SignalValidWrongFalsely : Prop := signalValidRow.holds Tryd.pinned (OpenSpec.ofChange signalValidWrong)

/-- 'jobshelllaw25.SignalSets': WHATEVER THE INPUT: true; the input reads as it did. -/
def signalSetsSpec : ChangeSpec := { name := "signalSets", fn := fun _ => fun
  | [d1, d2, d3] => { results := [.lit (.bool true)], args := [d1, d2, d3] }
  | _ => none }
def signalSetsRow : OpenClaim := { program := "ytlkfejigeeddaaadoor", sum := "10d7908775f735674576b2a002a137617af7d1341abf94180707794846e836a4", func := "jobshell/jobshelllaw25.SignalSets", spec := "signalSets", inPlace := ["slices.overlaps[int]"], unfollowed := true, recurses := true, named := ["jobshell/signal.names", "internal/strconv.uint64pow10", "math/bits.deBruijn32tab", "math/bits.deBruijn64tab"], apart := false, laid := [("math/bits.deBruijn32tab", laid_math_bits_deBruijn32tab), ("math/bits.deBruijn64tab", laid_math_bits_deBruijn64tab), ("internal/strconv.uint64pow10", laid_internal_strconv_uint64pow10), ("jobshell/signal.names", laid_jobshell_signal_names)] }
def SignalSetsSaid : Prop := signalSetsRow.holds Tryd.pinned (OpenSpec.ofChange signalSetsSpec)

/-- ITS FALSE NEIGHBOUR: 'it returns false'. Refute it at one input. -/
def signalSetsWrong : ChangeSpec := { name := "signalSets", fn := fun _ => fun
  | [d1, d2, d3] => { results := [.lit (.bool false)], args := [d1, d2, d3] }
  | _ => none }
def SignalSetsWrongFalsely : Prop := signalSetsRow.holds Tryd.pinned (OpenSpec.ofChange signalSetsWrong)

/-- 'jobshelllaw25.SignalStays': WHATEVER THE INPUT: true; the input reads as it did. -/
def signalStaysSpec : ChangeSpec := { name := "signalStays", fn := fun _ => fun
  | [d1, d2] => { results := [.lit (.bool true)], args := [d1, d2] }
  | _ => none }
def signalStaysRow : OpenClaim := { program := "ytlkfejigeeddaaadoor", sum := "10d7908775f735674576b2a002a137617af7d1341abf94180707794846e836a4", func := "jobshell/jobshelllaw25.SignalStays", spec := "signalStays", inPlace := ["slices.overlaps[int]"], unfollowed := true, recurses := true, named := ["jobshell/signal.names", "internal/strconv.uint64pow10", "math/bits.deBruijn32tab", "math/bits.deBruijn64tab"], apart := false, laid := [("math/bits.deBruijn32tab", laid_math_bits_deBruijn32tab), ("math/bits.deBruijn64tab", laid_math_bits_deBruijn64tab), ("internal/strconv.uint64pow10", laid_internal_strconv_uint64pow10), ("jobshell/signal.names", laid_jobshell_signal_names)] }
def SignalStaysSaid : Prop := signalStaysRow.holds Tryd.pinned (OpenSpec.ofChange signalStaysSpec)

/-- ITS FALSE NEIGHBOUR: 'it returns false'. Refute it at one input. -/
def signalStaysWrong : ChangeSpec := { name := "signalStays", fn := fun _ => fun
  | [d1, d2] => { results := [.lit (.bool false)], args := [d1, d2] }
  | _ => none }
def SignalStaysWrongFalsely : Prop := signalStaysRow.holds Tryd.pinned (OpenSpec.ofChange signalStaysWrong)

/- THE SECOND FORM. 'bulk': how many values and letters a reading holds, each counted each time it is reached (what is shared counts as often as it is met; a slice's spare places count too). A statement '..UptoSaid' is the law's where the arguments, and the package variables that the reading takes, are together of bulk at most 1048576: NARROWER than '..Said'. Prove '..Said' where nothing that the law and all that it calls make is longer than what came in: it says more and counts as full. Else prove '..UptoSaid'. A law counts once. -/
mutual
def uptoBulk {H : Type} : DataW H → Nat
  | .lit (.string bytes) => bytes.length + 1
  | .lit _ => 1
  | .nil => 1
  | .ptr d => uptoBulk d + 1
  | .slice elems spare => uptoBulkAll elems + uptoBulkAll spare + 1
  | .agg parts => uptoBulkAll parts + 1
  | .iface _ d => uptoBulk d + 1
  | .map entries => uptoBulkEntries entries + 1
  | .held _ => 1
def uptoBulkAll {H : Type} : List (DataW H) → Nat
  | [] => 0
  | d :: r => uptoBulk d + uptoBulkAll r
def uptoBulkEntries {H : Type} : List (Lit × DataW H) → Nat
  | [] => 0
  | x :: r => uptoBulkEntry x + uptoBulkEntries r
def uptoBulkEntry {H : Type} : Lit × DataW H → Nat
  | (.string bytes, d) => bytes.length + uptoBulk d + 1
  | (_, d) => uptoBulk d + 1
 end
def uptoSmall : (H : Type) → List (DataW H) → Bool := fun _ ds => decide (uptoBulkAll ds ≤ 1048576)
def OpenSpec.upto (s : _root_.Go.ChangeSpec) : _root_.Go.OpenSpec := { _root_.Go.OpenSpec.ofChange s with cond := some uptoSmall }

/-- 'jobshelllaw25.SignalNames', WHERE WHAT IT READS IS OF BULK AT MOST 1048576: true; the input reads as it did. -/
def signalNamesUptoRow : OpenClaim := { program := "ytlkfejigeeddaaadoor", sum := "10d7908775f735674576b2a002a137617af7d1341abf94180707794846e836a4", func := "jobshell/jobshelllaw25.SignalNames", spec := "signalNames", inPlace := ["slices.overlaps[int]"], unfollowed := true, recurses := true, named := ["jobshell/signal.names", "internal/strconv.uint64pow10", "math/bits.deBruijn32tab", "math/bits.deBruijn64tab"], apart := false, laid := [("math/bits.deBruijn32tab", laid_math_bits_deBruijn32tab), ("math/bits.deBruijn64tab", laid_math_bits_deBruijn64tab), ("internal/strconv.uint64pow10", laid_internal_strconv_uint64pow10), ("jobshell/signal.names", laid_jobshell_signal_names)], narrowed := true }
def SignalNamesUptoSaid : Prop := signalNamesUptoRow.holds Tryd.pinned (OpenSpec.upto signalNamesSpec)

/-- 'jobshelllaw25.SignalSends', WHERE WHAT IT READS IS OF BULK AT MOST 1048576: true; the input reads as it did. -/
def signalSendsUptoRow : OpenClaim := { program := "ytlkfejigeeddaaadoor", sum := "10d7908775f735674576b2a002a137617af7d1341abf94180707794846e836a4", func := "jobshell/jobshelllaw25.SignalSends", spec := "signalSends", inPlace := ["slices.overlaps[int]"], unfollowed := true, recurses := true, named := ["jobshell/signal.names", "internal/strconv.uint64pow10", "math/bits.deBruijn32tab", "math/bits.deBruijn64tab"], apart := false, laid := [("math/bits.deBruijn32tab", laid_math_bits_deBruijn32tab), ("math/bits.deBruijn64tab", laid_math_bits_deBruijn64tab), ("internal/strconv.uint64pow10", laid_internal_strconv_uint64pow10), ("jobshell/signal.names", laid_jobshell_signal_names)], narrowed := true }
def SignalSendsUptoSaid : Prop := signalSendsUptoRow.holds Tryd.pinned (OpenSpec.upto signalSendsSpec)

/-- 'jobshelllaw25.SignalTaken', WHERE WHAT IT READS IS OF BULK AT MOST 1048576: true; the input reads as it did. -/
def signalTakenUptoRow : OpenClaim := { program := "ytlkfejigeeddaaadoor", sum := "10d7908775f735674576b2a002a137617af7d1341abf94180707794846e836a4", func := "jobshell/jobshelllaw25.SignalTaken", spec := "signalTaken", inPlace := ["slices.overlaps[int]"], unfollowed := true, recurses := true, named := ["jobshell/signal.names", "internal/strconv.uint64pow10", "math/bits.deBruijn32tab", "math/bits.deBruijn64tab"], apart := false, laid := [("math/bits.deBruijn32tab", laid_math_bits_deBruijn32tab), ("math/bits.deBruijn64tab", laid_math_bits_deBruijn64tab), ("internal/strconv.uint64pow10", laid_internal_strconv_uint64pow10), ("jobshell/signal.names", laid_jobshell_signal_names)], narrowed := true }
def SignalTakenUptoSaid : Prop := signalTakenUptoRow.holds Tryd.pinned (OpenSpec.upto signalTakenSpec)

/-- 'jobshelllaw25.SignalIgnored', WHERE WHAT IT READS IS OF BULK AT MOST 1048576: true; the input reads as it did. -/
def signalIgnoredUptoRow : OpenClaim := { program := "ytlkfejigeeddaaadoor", sum := "10d7908775f735674576b2a002a137617af7d1341abf94180707794846e836a4", func := "jobshell/jobshelllaw25.SignalIgnored", spec := "signalIgnored", inPlace := ["slices.overlaps[int]"], unfollowed := true, recurses := true, named := ["jobshell/signal.names", "internal/strconv.uint64pow10", "math/bits.deBruijn32tab", "math/bits.deBruijn64tab"], apart := false, laid := [("math/bits.deBruijn32tab", laid_math_bits_deBruijn32tab), ("math/bits.deBruijn64tab", laid_math_bits_deBruijn64tab), ("internal/strconv.uint64pow10", laid_internal_strconv_uint64pow10), ("jobshell/signal.names", laid_jobshell_signal_names)], narrowed := true }
def SignalIgnoredUptoSaid : Prop := signalIgnoredUptoRow.holds Tryd.pinned (OpenSpec.upto signalIgnoredSpec)

/-- 'jobshelllaw25.SignalValid', WHERE WHAT IT READS IS OF BULK AT MOST 1048576: true; the input reads as it did. -/
def signalValidUptoRow : OpenClaim := { program := "ytlkfejigeeddaaadoor", sum := "10d7908775f735674576b2a002a137617af7d1341abf94180707794846e836a4", func := "jobshell/jobshelllaw25.SignalValid", spec := "signalValid", inPlace := ["slices.overlaps[int]"], unfollowed := true, recurses := true, named := ["jobshell/signal.names", "internal/strconv.uint64pow10", "math/bits.deBruijn32tab", "math/bits.deBruijn64tab"], apart := false, laid := [("math/bits.deBruijn32tab", laid_math_bits_deBruijn32tab), ("math/bits.deBruijn64tab", laid_math_bits_deBruijn64tab), ("internal/strconv.uint64pow10", laid_internal_strconv_uint64pow10), ("jobshell/signal.names", laid_jobshell_signal_names)], narrowed := true }
def SignalValidUptoSaid : Prop := signalValidUptoRow.holds Tryd.pinned (OpenSpec.upto signalValidSpec)

/-- 'jobshelllaw25.SignalSets', WHERE WHAT IT READS IS OF BULK AT MOST 1048576: true; the input reads as it did. -/
def signalSetsUptoRow : OpenClaim := { program := "ytlkfejigeeddaaadoor", sum := "10d7908775f735674576b2a002a137617af7d1341abf94180707794846e836a4", func := "jobshell/jobshelllaw25.SignalSets", spec := "signalSets", inPlace := ["slices.overlaps[int]"], unfollowed := true, recurses := true, named := ["jobshell/signal.names", "internal/strconv.uint64pow10", "math/bits.deBruijn32tab", "math/bits.deBruijn64tab"], apart := false, laid := [("math/bits.deBruijn32tab", laid_math_bits_deBruijn32tab), ("math/bits.deBruijn64tab", laid_math_bits_deBruijn64tab), ("internal/strconv.uint64pow10", laid_internal_strconv_uint64pow10), ("jobshell/signal.names", laid_jobshell_signal_names)], narrowed := true }
def SignalSetsUptoSaid : Prop := signalSetsUptoRow.holds Tryd.pinned (OpenSpec.upto signalSetsSpec)

/-- 'jobshelllaw25.SignalStays', WHERE WHAT IT READS IS OF BULK AT MOST 1048576: true; the input reads as it did. -/
def signalStaysUptoRow : OpenClaim := { program := "ytlkfejigeeddaaadoor", sum := "10d7908775f735674576b2a002a137617af7d1341abf94180707794846e836a4", func := "jobshell/jobshelllaw25.SignalStays", spec := "signalStays", inPlace := ["slices.overlaps[int]"], unfollowed := true, recurses := true, named := ["jobshell/signal.names", "internal/strconv.uint64pow10", "math/bits.deBruijn32tab", "math/bits.deBruijn64tab"], apart := false, laid := [("math/bits.deBruijn32tab", laid_math_bits_deBruijn32tab), ("math/bits.deBruijn64tab", laid_math_bits_deBruijn64tab), ("internal/strconv.uint64pow10", laid_internal_strconv_uint64pow10), ("jobshell/signal.names", laid_jobshell_signal_names)], narrowed := true }
def SignalStaysUptoSaid : Prop := signalStaysUptoRow.holds Tryd.pinned (OpenSpec.upto signalStaysSpec)

end Rows
end Go.Proofs.YtlkfejigeeddaaaDoor
